/-
  What is shown of an expression is parsed as it was, but for places: in plain Lean.
-/
import Derived.Test.YtnlikhjmmnaknaaGreatDoorHLexE
import Derived.Test.YtnlikhjmmnaknaaGreatDoorGP
namespace Go.Proofs.YtnlikhjmmnaknaaGreatDoor
open Go.RowKit

/-- the same, but for places -/
def Ex.like : Ex → Ex → Prop
  | .junk, _ => False
  | .mk op name n k arg _ _, e => e.op = op ∧ e.name = name ∧ e.num = n ∧ e.k = k ∧ ∀ i, i < k → (arg i).like (e.arg i)
theorem maxTo_eq {f g : Nat → Nat} : ∀ k, (∀ i, i < k → f i = g i) → maxTo f k = maxTo g k := by
  intro k
  induction k with
  | zero => intro _; rfl
  | succ k ih => intro h; show max _ _ = max _ _; rw [ih fun i hi => h i (by omega), h k (by omega)]
theorem like_height : ∀ (e e' : Ex), e.like e' → e'.fine → e.height = e'.height := by
  intro e
  induction e with
  | junk => intro e' h; exact h.elim
  | mk op name n k arg l c ih =>
    intro e' h hf
    obtain _ | ⟨op', name', n', k', arg', l', c'⟩ := e'
    · exact hf.elim
    obtain ⟨_, _, _, hk, ha⟩ := h
    have hk : k' = k := hk
    subst hk
    show maxTo _ _ + 1 = maxTo _ _ + 1
    rw [maxTo_eq k' fun i hi => ih i _ (ha i hi) (hf.2.2 i hi)]
    rfl

section
variable {s : ByteArray} {l : List Tk}
/-- from a token on these come -/
def Here (l : List Tk) (i : Nat) (its : List It) : Prop := ∀ j (h : j < its.length), i + j < l.length ∧ (tkN l (i + j)).it = its[j]
theorem Here.left {i : Nat} {a b : List It} (h : Here l i (a ++ b)) : Here l i a := fun j hj => by
  have := h j (by rw [List.length_append]; omega)
  rw [List.getElem_append_left hj] at this
  exact this
theorem Here.right {i : Nat} {a b : List It} (h : Here l i (a ++ b)) : Here l (i + a.length) b := fun j hj => by
  have := h (a.length + j) (by rw [List.length_append]; omega)
  rw [List.getElem_append_right (by omega)] at this
  simp only [Nat.add_sub_cancel_left] at this
  rw [show i + a.length + j = i + (a.length + j) by omega]
  exact this
theorem Here.head {i : Nat} {a : It} {b : List It} (h : Here l i (a :: b)) : i < l.length ∧ (tkN l i).it = a := h 0 (by simp)
theorem Here.tail {i : Nat} {a : It} {b : List It} (h : Here l i (a :: b)) : Here l (i + 1) b := Here.right (a := [a]) h
theorem Here.bound {i : Nat} {a : List It} (h : Here l i a) (hp : 0 < a.length) : i + a.length ≤ l.length := by
  have := (h (a.length - 1) (by omega)).1
  omega
theorem isN_it (i : Nat) (w : List UInt8) : isN l i w = (((tkN l i).it.kind == 3 || (tkN l i).it.kind == 4) && (tkN l i).it.text == w) := rfl
theorem opN_it (i : Nat) : opN l i = if (tkN l i).it.kind = 3 ∨ (tkN l i).it.kind = 4 then opText (tkN l i).it.text else 0 := rfl
theorem itOf_kind (t : List UInt8) : (itOf t).kind = 3 ∨ (itOf t).kind = 4 := by
  unfold itOf
  split
  · exact .inr rfl
  · exact .inl rfl
/-- a word or sign comes -/
theorem is_of {i : Nat} {t : List UInt8} (h : (tkN l i).it = itOf t) (w : List UInt8) : isN l i w = (t == w) := by
  rw [isN_it, h]
  have hk : (((itOf t).kind == 3) || ((itOf t).kind == 4)) = true := by rcases itOf_kind t with h | h <;> simp [h]
  rw [hk]; rfl
theorem op_of {i : Nat} {t : List UInt8} (h : (tkN l i).it = itOf t) : opN l i = opText t := by
  rw [opN_it, h, if_pos (itOf_kind t)]; rfl
theorem is_no {i : Nat} {k n : Int} {t : List UInt8} (h : (tkN l i).it = ⟨k, t, n⟩) (hk : k = 1 ∨ k = 2 ∨ k = 5) (w : List UInt8) : isN l i w = false := by
  rw [isN_it, h]
  rcases hk with rfl | rfl | rfl <;> simp
/-- what may come behind an expression of an op: no op, or one that is weaker than what its right part takes -/
def Weak (l : List Tk) (p : Int) (i : Nat) : Prop := (opN l i = 0 ∨ strOf (opN l i) < p) ∧ isN l i wOpen = false
theorem Weak.mono {p q : Int} {i : Nat} (h : Weak l p i) (hpq : p ≤ q) : Weak l q i := ⟨h.1.imp id fun h => by omega, h.2⟩
theorem loop_weak {rec : Int → Nat → PR} {least : Int} {f : Nat} {e : Ex} {sg : Int} {i : Nat} (h : Weak l least i) : loopN s l rec least f e sg i = .ok e i := by
  cases f with
  | zero => rfl
  | succ f =>
    unfold loopN
    rw [if_pos (h.1.imp id .inl)]

/-- what a right part may not be followed by -/
def fromE (op : Int) : Int := if (7 ≤ op ∧ op ≤ 20) ∨ op = 22 ∨ op = 23 then fromOf op else 10
theorem weak_nine {p : Int} {i : Nat} (hp : 9 ≤ p) (h : isN l i wOpen = false) : Weak l p i := by
  refine ⟨?_, h⟩
  by_cases h0 : opN l i = 0
  · exact .inl h0
  · have := str_cases ((opN_cases (l := l) i).resolve_left h0); exact .inr (by omega)
theorem weak_end {p : Int} {i : Nat} {t : List UInt8} (h : (tkN l i).it = itOf t) (ho : opText t = 0) (hn : (t == wOpen) = false) : Weak l p i := ⟨.inl (by rw [op_of h, ho]), by rw [is_of h, hn]⟩
/-- an expression is read where it stands without brackets: its prefix, and then as a left part -/
def PA (s : ByteArray) (l : List Tk) (e : Ex) : Prop := ∀ (d : Nat) (least : Int) (i : Nat), 2 * e.height ≤ d + 2 → e.height ≤ 30 → Here l i e.bareIt → least ≤ strOf e.op → 1 ≤ strOf e.op → Weak l (fromE e.op) (i + e.bareIt.length) →
  ∃ e' c, e'.like e ∧ c ≤ e.bareIt.length ∧ ∀ f, (prefN s l (exprN s l d) i).then (fun x i1 => loopN s l (exprN s l d) least (f + c) x (sigN l i) i1) = loopN s l (exprN s l d) least f e' (strOf e.op) (i + e.bareIt.length)
/-- .. as a whole -/
def PB (s : ByteArray) (l : List Tk) (e : Ex) : Prop := ∀ (d : Nat) (st : Int) (i : Nat), 2 * e.height ≤ d + 1 → e.height ≤ 30 → Here l i e.bareIt → 0 ≤ st → st ≤ 9 → st ≤ strOf e.op → Weak l st (i + e.bareIt.length) →
  ∃ e', e'.like e ∧ exprN s l d st i = .ok e' (i + e.bareIt.length)
theorem height_pos {e : Ex} (h : e.fine) : 1 ≤ e.height := by
  cases e with
  | junk => exact h.elim
  | mk => show 1 ≤ _ + 1; omega
theorem bareI_ne (op : Int) (name : ByteArray) (n : Int) (k : Nat) (p : Nat → Int → List It) : bareI op name n k p ≠ [] := by
  unfold bareI
  by_cases h1 : op = 1
  · rw [if_pos h1]; simp
  rw [if_neg h1]
  by_cases h2 : op = 2
  · rw [if_pos h2]
    by_cases hn : n = 1
    · rw [if_pos hn]; simp
    · rw [if_neg hn]; simp
  rw [if_neg h2]
  by_cases h3 : op = 3
  · rw [if_pos h3]; simp
  rw [if_neg h3]
  by_cases h4 : op = 4
  · rw [if_pos h4]; simp
  rw [if_neg h4]
  by_cases h5 : op = 5
  · rw [if_pos h5]; simp
  rw [if_neg h5]
  by_cases h6 : op = 6
  · rw [if_pos h6]; simp
  rw [if_neg h6]
  by_cases h21 : op = 21
  · rw [if_pos h21]; simp
  rw [if_neg h21]
  by_cases h24 : op = 24
  · rw [if_pos h24]; simp
  rw [if_neg h24]
  by_cases h25 : op = 25
  · rw [if_pos h25]; simp
  rw [if_neg h25]
  by_cases h26 : op = 26
  · rw [if_pos h26]; simp
  rw [if_neg h26]
  by_cases h27 : op = 27
  · rw [if_pos h27]; simp
  rw [if_neg h27]
  simp
theorem bareIt_pos : ∀ e : Ex, e.fine → 0 < e.bareIt.length := by
  intro e h
  cases e with
  | junk => exact h.elim
  | mk op name n k arg l c => exact List.length_pos_iff.2 (bareI_ne _ _ _ _ _)
theorem its_pos {e : Ex} (h : e.fine) (lst : Int) : 0 < (e.its lst).length := by
  unfold Ex.its wrapI
  split
  · simp
  · exact bareIt_pos e h
theorem want_it {i : Nat} {w : List UInt8} {f : Nat → PR} (h : (tkN l i).it = itOf w) : wantN s l w i f = f (i + 1) := by
  unfold wantN
  rw [if_pos (by rw [is_of h]; simp)]
theorem name_it {i : Nat} {x : ByteArray} {f : ByteArray → Nat → PR} (h : (tkN l i).it = itNm x) : nameN s l i f = f x (i + 1) := by
  have hk : (tkN l i).kind = 1 := congrArg It.kind h
  have ht : (tkN l i).text = x := by
    have := congrArg It.text h
    exact ByteArray.ext (Array.ext' this)
  unfold nameN
  rw [if_pos hk, ht]
theorem made_it {e : Ex} {i : Nat} (h : e.height ≤ 30) : madeN e i = .ok e i := by
  unfold madeN
  rw [if_neg (by omega)]
/-- brackets around -/
theorem within_it {e : Ex} (hB : PB s l e) {d i : Nat} {f : Ex → Nat → PR} (hd : 2 * e.height ≤ d + 1) (hh : e.height ≤ 30) (hH : Here l i (itOf [40] :: (e.bareIt ++ [itOf [41]]))) (h0 : 0 ≤ strOf e.op) :
    ∃ e', e'.like e ∧ withinN s l (exprN s l d) i f = f e' (i + (itOf [40] :: (e.bareIt ++ [itOf [41]])).length) := by
  have h1 := hH.head.2
  have h2 := hH.tail.left
  have h3 := hH.tail.right.head.2
  obtain ⟨e', hl, he⟩ := hB d 0 (i + 1) hd hh h2 (by omega) (by omega) h0 (weak_end h3 (by decide) (by decide))
  refine ⟨e', hl, ?_⟩
  unfold withinN
  rw [want_it (w := wOpen) h1, he, then_ok, want_it (w := wShut) h3]
  congr 1
  simp only [List.length_cons, List.length_append, List.length_nil]
  omega
theorem op1_sign {i : Nat} {t : List UInt8} (h : (tkN l i).it = itOf t) : op1N l i = if t = [45] then 5 else if t = [110, 111, 116] then 6 else if t = [112, 114, 101] then 21 else 0 := by
  unfold op1N
  rw [is_of h, is_of h, is_of h]
  simp only [beq_iff_eq]
  rfl
/-- an expression as a part: with brackets where it has to be stronger -/
theorem part_A {e : Ex} (hA : PA s l e) (hB : PB s l e) {d : Nat} {least lst : Int} {i : Nat} (hd : 2 * e.height ≤ d + 1) (hh : e.height ≤ 30) (hH : Here l i (e.its lst)) (hl1 : 1 ≤ lst) (h10 : lst ≤ 10) (hle : least ≤ lst) (hw : strOf e.op < lst ∨ Weak l (fromE e.op) (i + (e.its lst).length)) :
    ∃ e' c sg, e'.like e ∧ c ≤ (e.its lst).length ∧ lst ≤ sg ∧ ∀ f, (prefN s l (exprN s l d) i).then (fun x i1 => loopN s l (exprN s l d) least (f + c) x (sigN l i) i1) = loopN s l (exprN s l d) least f e' sg (i + (e.its lst).length) := by
  have hs := strOf_bd e.op
  unfold Ex.its wrapI at hH hw ⊢
  by_cases hlt : strOf e.op < lst
  · rw [if_pos hlt] at hH ⊢
    have h1 := hH.head.2
    have hop1 : op1N l i = 0 := by rw [op1_sign h1]; decide
    have hk : (tkN l i).kind = 3 := by have := congrArg It.kind h1; exact this
    obtain ⟨e', hlk, he⟩ := within_it (f := .ok) hB hd hh hH (by omega)
    refine ⟨e', 0, 10, hlk, by omega, h10, fun f => ?_⟩
    have hp : prefN s l (exprN s l d) i = .ok e' (i + (itOf [40] :: (e.bareIt ++ [itOf [41]])).length) := by
      unfold prefN
      rw [if_pos hop1]
      unfold aloneN
      rw [if_neg (by omega), if_neg (by rw [is_of h1]; decide), if_neg (by rw [is_of h1]; decide), if_neg (by omega), if_neg (by rw [is_of h1]; decide)]
      exact he
    have hsg : sigN l i = 10 := by unfold sigN; rw [if_pos hop1]
    rw [hp, then_ok, hsg]
    rfl
  · rw [if_neg hlt] at hH hw ⊢
    obtain ⟨e', c, hlk, hc, he⟩ := hA d least i (by omega) hh hH (by omega) (by omega) (hw.resolve_left hlt)
    exact ⟨e', c, strOf e.op, hlk, hc, by omega, he⟩
theorem fromE_ge (op : Int) : strOf op ≤ fromE op := by
  unfold fromE
  split
  · unfold fromOf; split <;> omega
  · exact (strOf_bd op).2
/-- .. as a whole -/
theorem part_B {e : Ex} (hf : e.fine) (hA : PA s l e) (hB : PB s l e) {d : Nat} {st : Int} {i : Nat} (hd : 2 * e.height ≤ d) (hh : e.height ≤ 30) (hH : Here l i (e.its st)) (h0 : 0 ≤ st) (h9 : st ≤ 9) (hw : Weak l st (i + (e.its st).length)) :
    ∃ e', e'.like e ∧ exprN s l d st i = .ok e' (i + (e.its st).length) := by
  have hs := strOf_bd e.op
  have hp := height_pos hf
  by_cases hlt : strOf e.op < st
  · obtain ⟨d, rfl⟩ : ∃ x, d = x + 1 := ⟨d - 1, by omega⟩
    obtain ⟨e', c, sg, hlk, hc, hsg, he⟩ := part_A hA hB (d := d) (least := st) (by omega) hh hH (by omega) (by omega) (Int.le_refl _) (.inl hlt)
    have hb := hH.bound (its_pos hf st)
    have hi : i < l.length := by have := its_pos hf st; omega
    refine ⟨e', hlk, ?_⟩
    show (if i < l.length ∧ 0 ≤ st ∧ st ≤ 9 then oneN s l (exprN s l d) st i else _) = _
    rw [if_pos ⟨hi, h0, h9⟩]
    unfold oneN
    rw [if_neg (by omega)]
    have := he (l.length - c)
    rw [show l.length - c + c = l.length by omega] at this
    rw [this]
    exact loop_weak hw
  · have heq : e.its st = e.bareIt := by unfold Ex.its wrapI; rw [if_neg hlt]
    rw [heq] at hH hw ⊢
    exact hB d st i (by omega) hh hH h0 h9 (by omega) hw

/-! all ops -/
theorem like_mk {op : Int} {name : ByteArray} {n : Int} {k : Nat} {arg : Nat → Ex} {l1 c1 ln cl : Int} {xs : List Ex} (hk : xs.length = k) (h : ∀ i (hi : i < xs.length), (xs[i]).like (arg i)) : (mkEx op name n xs ln cl).like (.mk op name n k arg l1 c1) :=
  ⟨rfl, rfl, rfl, hk.symm, fun i hi => by
    show (xs[i]?.getD .junk).like (arg i)
    rw [List.getElem?_eq_getElem hi]
    exact h i hi⟩
theorem arg_height {op : Int} {name : ByteArray} {n : Int} {k : Nat} {arg : Nat → Ex} {l1 c1 : Int} (i : Nat) (hi : i < k) : (arg i).height + 1 ≤ (Ex.mk op name n k arg l1 c1).height := by
  show _ ≤ maxTo _ _ + 1
  have h : ∀ k, i < k → (arg i).height ≤ maxTo (fun i => (arg i).height) k := by
    intro k
    induction k with
    | zero => intro h; omega
    | succ k ih =>
      intro h
      show _ ≤ max _ _
      by_cases hik : i = k
      · subst hik; exact Nat.le_max_right ..
      · exact Nat.le_trans (ih (by omega)) (Nat.le_max_left ..)
  have := h k hi
  omega

/-- no 'if' at the head -/
def PN (l : List Tk) (e : Ex) : Prop := ∀ i, 1 ≤ strOf e.op → Here l i e.bareIt → isN l i wIf = false
theorem part_N {e : Ex} (hN : PN l e) {lst : Int} {i : Nat} (h1 : 1 ≤ lst) (hH : Here l i (e.its lst)) : isN l i wIf = false := by
  unfold Ex.its wrapI at hH
  by_cases hlt : strOf e.op < lst
  · rw [if_pos hlt] at hH
    rw [is_of hH.head.2]; decide
  · rw [if_neg hlt] at hH
    exact hN i (by omega) hH
theorem tk_name {i : Nat} {x : ByteArray} (h : (tkN l i).it = itNm x) : (tkN l i).kind = 1 ∧ (tkN l i).text = x :=
  ⟨congrArg It.kind h, ByteArray.ext (Array.ext' (congrArg It.text h))⟩
theorem name_is {i : Nat} {x : ByteArray} (h : (tkN l i).it = itNm x) (w : List UInt8) : isN l i w = false := is_no h (.inl rfl) w
theorem name_nil {x : ByteArray} (h : x.data.toList = []) : x = ⟨#[]⟩ := ByteArray.ext (Array.ext' h)
/-- the parts of a call behind the first -/
def restI (g : Nat → List It) : Nat → Nat → List It
  | _, 0 => []
  | a, m + 1 => itOf [44] :: (g a ++ restI g (a + 1) m)
theorem restI_snoc (g : Nat → List It) : ∀ (m a : Nat), restI g a (m + 1) = restI g a m ++ (itOf [44] :: g (a + m)) := by
  intro m
  induction m with
  | zero => intro a; simp [restI]
  | succ m ih =>
    intro a
    rw [restI, ih (a + 1), restI]
    simp only [List.cons_append, List.append_assoc]
    rw [show a + 1 + m = a + (m + 1) by omega]
theorem commaI_rest (g : Nat → List It) : ∀ m, commaI g (m + 1) = g 0 ++ restI g 1 m := by
  intro m
  induction m with
  | zero => simp [commaI, restI]
  | succ m ih =>
    rw [commaI, ih, if_neg (by omega), restI_snoc]
    simp only [List.append_assoc, List.cons_append, List.nil_append]
    rw [show 1 + m = m + 1 by omega]
theorem args_it {op : Int} {name nm : ByteArray} {n : Int} {k : Nat} {arg : Nat → Ex} {l1 c1 : Int} {d at_ : Nat} (hop : op = 4) (hnm : nm = name) (hn0 : n = 0) (hk8 : k ≤ 8) (hf : ∀ i, i < k → (arg i).fine) (hAB : ∀ i, i < k → PA s l (arg i) ∧ PB s l (arg i)) (hd : ∀ i, i < k → 2 * (arg i).height ≤ d) (hh : ∀ i, i < k → (arg i).height ≤ 30) (hH30 : (Ex.mk op name n k arg l1 c1).height ≤ 30) (hfine : (Ex.mk op name n k arg l1 c1).fine) :
    ∀ (m a : Nat) (xs : List Ex) (j kk : Nat), xs.length = a → a + m = k → (∀ i (hi : i < xs.length), (xs[i]).like (arg i)) → m ≤ kk → Here l j (restI (fun i => (arg i).its 0) a m ++ [itOf [41]]) →
      ∃ e' : Ex, e'.like (.mk op name n k arg l1 c1) ∧ argsN s l (exprN s l d) nm at_ kk xs j = .ok e' (j + (restI (fun i => (arg i).its 0) a m ++ [itOf [41]]).length) := by
  intro m
  induction m with
  | zero =>
    intro a xs j kk hxa hak hxs hkk hH
    simp only [restI, List.nil_append] at hH ⊢
    have h1 := hH.head.2
    have hlk : (mkEx 4 nm 0 xs (lnN s l at_) (clN s l at_)).like (.mk op name n k arg l1 c1) := by
      subst hop hnm hn0
      exact like_mk (by omega) hxs
    refine ⟨_, hlk, ?_⟩
    have hc : ¬ isN l j wComma = true := by rw [is_of h1]; decide
    have hm : (mkEx 4 nm 0 xs (lnN s l at_) (clN s l at_)).height ≤ 30 := by rw [like_height _ _ hlk hfine]; exact hH30
    unfold argsN
    rw [if_neg hc, want_it (w := wShut) h1, made_it hm]
    rfl
  | succ m ih =>
    intro a xs j kk hxa hak hxs hkk hH
    obtain ⟨kk, rfl⟩ : ∃ x, kk = x + 1 := ⟨kk - 1, by omega⟩
    rw [restI, List.cons_append, List.append_assoc] at hH
    have h1 := hH.head.2
    have hc : isN l j wComma = true := by rw [is_of h1]; decide
    have hH2 := hH.tail
    have hnext : Weak l 0 (j + 1 + ((arg a).its 0).length) := by
      have h3 := hH2.right
      cases m with
      | zero => exact weak_end (t := [41]) h3.head.2 (by decide) (by decide)
      | succ m => rw [restI, List.cons_append] at h3; exact weak_end (t := [44]) h3.head.2 (by decide) (by decide)
    obtain ⟨x, hxl, hx⟩ := part_B (hf a (by omega)) (hAB a (by omega)).1 (hAB a (by omega)).2 (hd a (by omega)) (hh a (by omega)) hH2.left (Int.le_refl _) (by omega) hnext
    obtain ⟨e', hlk, he⟩ := ih (a + 1) (xs ++ [x]) _ kk (by simp [hxa]) (by omega) (fun i hi => by
      by_cases hia : i < xs.length
      · rw [List.getElem_append_left hia]; exact hxs i hia
      · have : i = a := by simp at hi; omega
        subst this
        rw [List.getElem_append_right (by omega)]
        simp only [hxa, Nat.sub_self, List.getElem_cons_zero]
        exact hxl) (by omega) hH2.right
    refine ⟨e', hlk, ?_⟩
    unfold argsN
    rw [if_pos hc]
    dsimp only
    rw [hx, then_ok, he]
    congr 1
    simp only [restI, List.length_append, List.length_cons, List.length_nil]
    omega

/-- the prefix's op is none, where a word or sign is none of the three -/
theorem op1_kind {i : Nat} (h : (tkN l i).kind = 1 ∨ (tkN l i).kind = 2) : op1N l i = 0 := by
  have hno : ∀ w, isN l i w = false := fun w => by unfold isN; rcases h with h | h <;> simp [h]
  unfold op1N
  rw [hno, hno, hno]; rfl
theorem sig_ten {i : Nat} (h : op1N l i = 0) : sigN l i = 10 := by unfold sigN; rw [if_pos h]
theorem one_it {e' : Ex} {d i : Nat} {least : Int} {f : Nat} {sg : Int} {j : Nat} (h : prefN s l (exprN s l d) i = .ok e' j) (hs : sigN l i = sg) : (prefN s l (exprN s l d) i).then (fun x i1 => loopN s l (exprN s l d) least (f + 0) x (sigN l i) i1) = loopN s l (exprN s l d) least f e' sg j := by
  rw [h, hs]; rfl
theorem opText_sgn {op : Int} (h : (7 ≤ op ∧ op ≤ 20) ∨ op = 22 ∨ op = 23) : opText (sgnOf op).data.toList = op ∧ ((sgnOf op).data.toList == wOpen) = false := by
  rcases (by omega : op = 7 ∨ op = 8 ∨ op = 9 ∨ op = 10 ∨ op = 11 ∨ op = 12 ∨ op = 13 ∨ op = 14 ∨ op = 15 ∨ op = 16 ∨ op = 17 ∨ op = 18 ∨ op = 19 ∨ op = 20 ∨ op = 22 ∨ op = 23) with rfl | rfl | rfl | rfl | rfl | rfl | rfl | rfl | rfl | rfl | rfl | rfl | rfl | rfl | rfl | rfl <;> decide
theorem left_need {op : Int} : leftOf op = needOf op := by
  unfold leftOf needOf
  by_cases h6 : strOf op = 6
  · rw [if_pos h6, if_pos (.inl h6), h6]; rfl
  · rw [if_neg h6]
    by_cases h12 : strOf op = 1 ∨ strOf op = 2
    · rw [if_pos h12, if_pos (.inr h12)]
    · rw [if_neg h12, if_neg (by omega)]
theorem right_from {op : Int} : rightOf op = fromOf op := rfl
/-- the op behind a left part is weaker than what that part's right part takes -/
theorem left_weak {op a : Int} (h8 : strOf op ≤ 8) (ha : leftOf op ≤ strOf a) : strOf op < fromE a := by
  have hn : leftOf op = needOf op := left_need
  have hb := strOf_bd op
  unfold fromE
  by_cases hs : (7 ≤ a ∧ a ≤ 20) ∨ a = 22 ∨ a = 23
  · rw [if_pos hs]
    unfold fromOf
    rw [hn] at ha
    unfold needOf at ha
    split at ha <;> split <;> omega
  · rw [if_neg hs]; omega
/-- an op of two parts, or a condition, behind a left part: what the left part is read to -/
theorem left_A {e : Ex} (hA : PA s l e) (hB : PB s l e) {op : Int} {d : Nat} {least : Int} {i : Nat} (hop1 : 1 ≤ strOf op) (hop8 : strOf op ≤ 8) (hd : 2 * e.height ≤ d + 1) (hh : e.height ≤ 30) (hH : Here l i (e.its (leftOf op))) (hle : least ≤ strOf op) (hnx : opN l (i + (e.its (leftOf op)).length) = op) (hno : isN l (i + (e.its (leftOf op)).length) wOpen = false) :
    ∃ e' c sg, e'.like e ∧ c ≤ (e.its (leftOf op)).length ∧ needOf op ≤ sg ∧ ∀ f, (prefN s l (exprN s l d) i).then (fun x i1 => loopN s l (exprN s l d) least (f + c) x (sigN l i) i1) = loopN s l (exprN s l d) least f e' sg (i + (e.its (leftOf op)).length) := by
  have hl : strOf op ≤ leftOf op ∧ leftOf op ≤ strOf op + 1 := by unfold leftOf; split <;> (try split) <;> omega
  have := part_A hA hB (least := least) (lst := leftOf op) hd hh hH (by omega) (by omega) (by omega) (by
    by_cases hlt : strOf e.op < leftOf op
    · exact .inl hlt
    · exact .inr ⟨.inr (by rw [hnx]; exact left_weak hop8 (by omega)), hno⟩)
  rw [left_need] at this ⊢
  exact this
theorem two_height {op : Int} {name : ByteArray} {n : Int} {k : Nat} {arg : Nat → Ex} {l1 c1 : Int} {e' : Ex} (h : e'.like (.mk op name n k arg l1 c1)) (hf : (Ex.mk op name n k arg l1 c1).fine) (hh : (Ex.mk op name n k arg l1 c1).height ≤ 30) : e'.height ≤ 30 := by rw [like_height _ _ h hf]; exact hh
theorem bareI_two {op : Int} (h : (7 ≤ op ∧ op ≤ 20) ∨ op = 22 ∨ op = 23) (name : ByteArray) (n : Int) (k : Nat) (p : Nat → Int → List It) : bareI op name n k p = p 0 (leftOf op) ++ (itOf (sgnOf op).data.toList :: p 1 (rightOf op)) := by
  unfold bareI
  rw [if_neg (by omega), if_neg (by omega), if_neg (by omega), if_neg (by omega), if_neg (by omega), if_neg (by omega), if_neg (by omega), if_neg (by omega), if_neg (by omega), if_neg (by omega), if_neg (by omega)]
theorem reads_PA {op : Int} {name : ByteArray} {n : Int} {k : Nat} {arg : Nat → Ex} {l1 c1 : Int} (hfine : (Ex.mk op name n k arg l1 c1).fine) (hAB : ∀ i, i < k → PA s l (arg i) ∧ PB s l (arg i)) : PA s l (.mk op name n k arg l1 c1) := by
  intro d least i hd hh hH hle hs1 hw
  have hG : ∀ j, j < k → (arg j).height + 1 ≤ (Ex.mk op name n k arg l1 c1).height := fun j hj => arg_height j hj
  obtain ⟨hp, hn, hargs⟩ := id hfine
  have F := plain_facts hp
  have hMade : ∀ {e' : Ex}, e'.like (.mk op name n k arg l1 c1) → e'.height ≤ 30 := fun h => two_height h hfine hh
  have hno := hw.2
  rw [bareIt_mk] at hH hw hno ⊢
  simp only [Ex.op] at hle hs1 hw ⊢
  have hlo := F.lo
  have hhi := F.hi
  by_cases h1 : op = 1
  · subst h1
    have h1 := hH.head.2
    have hk : (tkN l i).kind = 2 := congrArg It.kind h1
    have hnum : (tkN l i).num = n := congrArg It.num h1
    have hnm := name_nil (F.bare (by omega))
    have ho := op1_kind (.inr hk)
    refine ⟨mkEx 1 ⟨#[]⟩ n [] (lnN s l i) (clN s l i), 0, ?_, by omega, fun f => ?_⟩
    · subst hnm; exact like_mk (by rw [F.k0 (by omega)]; rfl) (fun j hj => absurd hj (by simp))
    · refine one_it ?_ (sig_ten ho)
      unfold prefN
      rw [if_pos ho]
      unfold aloneN
      rw [if_pos hk, hnum]
      rfl
  by_cases h2 : op = 2
  · subst h2
    have hnm := name_nil (F.bare (by omega))
    have hb : bareI 2 name n k (fun i least => (arg i).its least) = if n = 1 then [itOf [116, 114, 117, 101]] else [itOf [102, 97, 108, 115, 101]] := rfl
    rw [hb] at hH hw ⊢
    by_cases hn1 : n = 1
    · rw [if_pos hn1] at hH ⊢
      have h1 := hH.head.2
      have ho : op1N l i = 0 := by rw [op1_sign h1]; decide
      have hk2 : (tkN l i).kind = 4 := congrArg It.kind h1
      refine ⟨mkEx 2 ⟨#[]⟩ 1 [] (lnN s l i) (clN s l i), 0, ?_, by omega, fun f => ?_⟩
      · subst hnm; subst hn1; exact like_mk (by rw [F.k0 (by omega)]; rfl) (fun j hj => absurd hj (by simp))
      · refine one_it ?_ (sig_ten ho)
        unfold prefN
        rw [if_pos ho]
        unfold aloneN
        rw [if_neg (by omega), if_pos (by rw [is_of h1]; decide)]
        rfl
    · rw [if_neg hn1] at hH ⊢
      have h1 := hH.head.2
      have ho : op1N l i = 0 := by rw [op1_sign h1]; decide
      have hk2 : (tkN l i).kind = 4 := congrArg It.kind h1
      refine ⟨mkEx 2 ⟨#[]⟩ 0 [] (lnN s l i) (clN s l i), 0, ?_, by omega, fun f => ?_⟩
      · have hn0 : n = 0 := (F.n2 rfl).resolve_right hn1
        subst hnm; subst hn0; exact like_mk (by rw [F.k0 (by omega)]; rfl) (fun j hj => absurd hj (by simp))
      · refine one_it ?_ (sig_ten ho)
        unfold prefN
        rw [if_pos ho]
        unfold aloneN
        rw [if_neg (by omega), if_neg (by rw [is_of h1]; decide), if_pos (by rw [is_of h1]; decide)]
        rfl
  by_cases h3 : op = 3
  · subst h3
    have h1 := hH.head.2
    obtain ⟨hk, ht⟩ := tk_name h1
    have ho := op1_kind (.inl hk)
    have hn0 := F.n0 (by omega) (by omega)
    refine ⟨mkEx 3 name 0 [] (lnN s l i) (clN s l i), 0, ?_, by omega, fun f => ?_⟩
    · subst hn0; exact like_mk (by rw [F.k0 (by omega)]; rfl) (fun j hj => absurd hj (by simp))
    · refine one_it ?_ (sig_ten ho)
      unfold prefN
      rw [if_pos ho]
      unfold aloneN
      have hno2 : isN l (i + 1) wOpen = false := hno
      rw [if_neg (by omega), if_neg (by rw [name_is h1]; simp), if_neg (by rw [name_is h1]; simp), if_pos hk, if_neg (by rw [hno2]; simp), ht]
      rfl
  by_cases h4 : op = 4
  · subst h4
    have hk4 := F.k4 rfl
    have hn0 := F.n0 (by omega) (by omega)
    obtain ⟨k0, rfl⟩ : ∃ x, k = x + 1 := ⟨k - 1, by omega⟩
    have hb : bareI 4 name n (k0 + 1) (fun i least => (arg i).its least) = itNm name :: itOf [40] :: ((arg 0).its 0 ++ (restI (fun i => (arg i).its 0) 1 k0 ++ [itOf [41]])) := by
      show itNm name :: itOf [40] :: (commaI (fun i => (arg i).its 0) (k0 + 1) ++ [itOf [41]]) = _
      rw [commaI_rest, List.append_assoc]
    rw [hb] at hH hw hno ⊢
    have h1 := hH.head.2
    obtain ⟨hk, ht⟩ := tk_name h1
    have ho := op1_kind (.inl hk)
    have h2' := hH.tail.head.2
    have hH3 := hH.tail.tail
    have hnext : Weak l 0 (i + 1 + 1 + ((arg 0).its 0).length) := by
      have h3 := hH3.right
      cases k0 with
      | zero => exact weak_end (t := [41]) h3.head.2 (by decide) (by decide)
      | succ m => rw [restI, List.cons_append] at h3; exact weak_end (t := [44]) h3.head.2 (by decide) (by decide)
    have hg0 := hG 0 (by omega)
    obtain ⟨x, hxl, hx⟩ := part_B (hargs 0 (by omega)) (hAB 0 (by omega)).1 (hAB 0 (by omega)).2 (d := d) (by omega) (by omega) hH3.left (Int.le_refl _) (by omega) hnext
    obtain ⟨e', hlk, he⟩ := args_it (s := s) (at_ := i) (d := d) (nm := name) (c1 := c1) (l1 := l1) rfl rfl hn0 hk4.2 hargs hAB (fun j hj => by have := hG j hj; omega) (fun j hj => by have := hG j hj; omega) hh hfine k0 1 [x] _ 7 rfl (by omega) (fun j hj => by
      have : j = 0 := by simpa using hj
      subst this
      exact hxl) (by omega) hH3.right
    refine ⟨e', 0, hlk, by omega, fun f => ?_⟩
    refine one_it ?_ (sig_ten ho)
    unfold prefN
    rw [if_pos ho]
    unfold aloneN
    rw [if_neg (by omega), if_neg (by rw [name_is h1]; simp), if_neg (by rw [name_is h1]; simp), if_pos hk, if_pos (by rw [is_of h2']; decide), ht, hx, then_ok, he]
    congr 1
    simp only [List.length_append, List.length_cons, List.length_nil]
    omega
  by_cases h5 : op = 5
  · subst h5
    have hk1 := F.k1 (by omega)
    have hn0 := F.n0 (by omega) (by omega)
    have hnm := name_nil (F.bare (by omega))
    have hb : bareI 5 name n k (fun i least => (arg i).its least) = itOf [45] :: (arg 0).its 9 := rfl
    rw [hb] at hH hw hno ⊢
    have h1' := hH.head.2
    have ho : op1N l i = 5 := by rw [op1_sign h1']; decide
    have hg0 := hG 0 (by omega)
    have hlen : i + (itOf [45] :: (arg 0).its 9).length = i + 1 + ((arg 0).its 9).length := by simp only [List.length_cons]; omega
    rw [hlen] at hno ⊢
    obtain ⟨x, hxl, hx⟩ := part_B (hargs 0 (by omega)) (hAB 0 (by omega)).1 (hAB 0 (by omega)).2 (d := d) (st := 9) (by omega) (by omega) hH.tail (by omega) (by omega) (weak_nine (Int.le_refl _) hno)
    have hlk : (mkEx 5 ⟨#[]⟩ 0 [x] (lnN s l i) (clN s l i)).like (.mk 5 name n k arg l1 c1) := by
      subst hnm; subst hn0
      exact like_mk hk1.symm (fun j hj => by
        have : j = 0 := by simpa using hj
        subst this
        exact hxl)
    refine ⟨_, 0, hlk, by omega, fun f => ?_⟩
    refine one_it (sg := 9) ?_ (by unfold sigN; rw [if_neg (by omega)])
    unfold prefN
    rw [if_neg (by omega), hx, then_ok, ho, made_it (hMade hlk)]
  by_cases h6 : op = 6
  · subst h6
    have hk1 := F.k1 (by omega)
    have hn0 := F.n0 (by omega) (by omega)
    have hnm := name_nil (F.bare (by omega))
    have hb : bareI 6 name n k (fun i least => (arg i).its least) = itOf [110, 111, 116] :: (arg 0).its 9 := rfl
    rw [hb] at hH hw hno ⊢
    have h1' := hH.head.2
    have ho : op1N l i = 6 := by rw [op1_sign h1']; decide
    have hg0 := hG 0 (by omega)
    have hlen : i + (itOf [110, 111, 116] :: (arg 0).its 9).length = i + 1 + ((arg 0).its 9).length := by simp only [List.length_cons]; omega
    rw [hlen] at hno ⊢
    obtain ⟨x, hxl, hx⟩ := part_B (hargs 0 (by omega)) (hAB 0 (by omega)).1 (hAB 0 (by omega)).2 (d := d) (st := 9) (by omega) (by omega) hH.tail (by omega) (by omega) (weak_nine (Int.le_refl _) hno)
    have hlk : (mkEx 6 ⟨#[]⟩ 0 [x] (lnN s l i) (clN s l i)).like (.mk 6 name n k arg l1 c1) := by
      subst hnm; subst hn0
      exact like_mk hk1.symm (fun j hj => by
        have : j = 0 := by simpa using hj
        subst this
        exact hxl)
    refine ⟨_, 0, hlk, by omega, fun f => ?_⟩
    refine one_it (sg := 9) ?_ (by unfold sigN; rw [if_neg (by omega)])
    unfold prefN
    rw [if_neg (by omega), hx, then_ok, ho, made_it (hMade hlk)]
  by_cases h21 : op = 21
  · subst h21
    have hk1 := F.k1 (by omega)
    have hn0 := F.n0 (by omega) (by omega)
    have hnm := name_nil (F.bare (by omega))
    have hb : bareI 21 name n k (fun i least => (arg i).its least) = itOf [112, 114, 101] :: (arg 0).its 9 := rfl
    rw [hb] at hH hw hno ⊢
    have h1' := hH.head.2
    have ho : op1N l i = 21 := by rw [op1_sign h1']; decide
    have hg0 := hG 0 (by omega)
    have hlen : i + (itOf [112, 114, 101] :: (arg 0).its 9).length = i + 1 + ((arg 0).its 9).length := by simp only [List.length_cons]; omega
    rw [hlen] at hno ⊢
    obtain ⟨x, hxl, hx⟩ := part_B (hargs 0 (by omega)) (hAB 0 (by omega)).1 (hAB 0 (by omega)).2 (d := d) (st := 9) (by omega) (by omega) hH.tail (by omega) (by omega) (weak_nine (Int.le_refl _) hno)
    have hlk : (mkEx 21 ⟨#[]⟩ 0 [x] (lnN s l i) (clN s l i)).like (.mk 21 name n k arg l1 c1) := by
      subst hnm; subst hn0
      exact like_mk hk1.symm (fun j hj => by
        have : j = 0 := by simpa using hj
        subst this
        exact hxl)
    refine ⟨_, 0, hlk, by omega, fun f => ?_⟩
    refine one_it (sg := 9) ?_ (by unfold sigN; rw [if_neg (by omega)])
    unfold prefN
    rw [if_neg (by omega), hx, then_ok, ho, made_it (hMade hlk)]
  by_cases h24 : op = 24
  · subst h24
    have hk1 := F.k1 (by omega)
    have hn0 := F.n0 (by omega) (by omega)
    have hg0 := hG 0 (by omega)
    have hb : bareI 24 name n k (fun i least => (arg i).its least) = (arg 0).its (leftOf 24) ++ (itOf [119, 104, 101, 110] :: [itNm name]) := rfl
    rw [hb] at hH hw hno ⊢
    obtain ⟨J, hJ⟩ : ∃ J, J = i + ((arg 0).its (leftOf 24)).length := ⟨_, rfl⟩
    have hR := hH.right
    rw [← hJ] at hR
    have t1 := hR.head.2
    have t2 := hR.tail.head.2
    have hopJ : opN l J = 24 := by rw [op_of t1]; decide
    obtain ⟨x, c, sg, hxl, hc, hsg, he⟩ := left_A (hAB 0 (by omega)).1 (hAB 0 (by omega)).2 (op := 24) (d := d) (least := least) (by decide) (by decide) (by omega) (by omega) hH.left hle (by rw [← hJ]; exact hopJ) (by rw [← hJ, is_of t1]; decide)
    rw [← hJ] at he
    have hlk : (mkEx 24 name 0 [x] (lnN s l J) (clN s l J)).like (.mk 24 name n k arg l1 c1) := by
      subst hn0
      exact like_mk hk1.symm (fun j hj => by
        have : j = 0 := by simpa using hj
        subst this
        exact hxl)
    refine ⟨_, c + 1, hlk, by simp only [List.length_append, List.length_cons, List.length_nil]; omega, fun f => ?_⟩
    have hE := he (f + 1)
    rw [show f + 1 + c = f + (c + 1) by omega] at hE
    rw [hE]
    have h3 : strOf 24 = 3 := by decide
    have hst : strOf 24 = 3 := by decide
    have hnd : needOf 24 = 3 := by decide
    rw [hst] at hle
    have hstep : loopN s l (exprN s l d) least (f + 1) x sg J = whenN s l x J fun e1 i1 => loopN s l (exprN s l d) least f e1 3 i1 := by
      show (if _ then _ else _) = _
      rw [hopJ, h3, hnd] 
      rw [if_neg (by omega), if_pos rfl]
    rw [hstep]
    unfold whenN
    rw [if_neg (by rw [name_is t2]; simp), name_it t2, made_it (hMade hlk), then_ok, hst]
    congr 1
    simp only [List.length_append, List.length_cons, List.length_nil]
    omega
  by_cases h25 : op = 25
  · subst h25
    have hk1 := F.k1 (by omega)
    have hn0 := F.n0 (by omega) (by omega)
    have hg0 := hG 0 (by omega)
    have hb : bareI 25 name n k (fun i least => (arg i).its least) = (arg 0).its (leftOf 24) ++ (itOf [119, 104, 101, 110] :: itOf [110, 111, 116] :: [itNm name]) := rfl
    rw [hb] at hH hw hno ⊢
    obtain ⟨J, hJ⟩ : ∃ J, J = i + ((arg 0).its (leftOf 24)).length := ⟨_, rfl⟩
    have hR := hH.right
    rw [← hJ] at hR
    have t1 := hR.head.2
    have t2 := hR.tail.head.2
    have t3 := hR.tail.tail.head.2
    have hopJ : opN l J = 24 := by rw [op_of t1]; decide
    obtain ⟨x, c, sg, hxl, hc, hsg, he⟩ := left_A (hAB 0 (by omega)).1 (hAB 0 (by omega)).2 (op := 24) (d := d) (least := least) (by decide) (by decide) (by omega) (by omega) hH.left hle (by rw [← hJ]; exact hopJ) (by rw [← hJ, is_of t1]; decide)
    rw [← hJ] at he
    have hlk : (mkEx 25 name 0 [x] (lnN s l J) (clN s l J)).like (.mk 25 name n k arg l1 c1) := by
      subst hn0
      exact like_mk hk1.symm (fun j hj => by
        have : j = 0 := by simpa using hj
        subst this
        exact hxl)
    refine ⟨_, c + 1, hlk, by simp only [List.length_append, List.length_cons, List.length_nil]; omega, fun f => ?_⟩
    have hE := he (f + 1)
    rw [show f + 1 + c = f + (c + 1) by omega] at hE
    rw [hE]
    have h3 : strOf 24 = 3 := by decide
    have hst : strOf 25 = 3 := by decide
    have hnd : needOf 24 = 3 := by decide
    rw [hst] at hle
    have hstep : loopN s l (exprN s l d) least (f + 1) x sg J = whenN s l x J fun e1 i1 => loopN s l (exprN s l d) least f e1 3 i1 := by
      show (if _ then _ else _) = _
      rw [hopJ, h3, hnd] 
      rw [if_neg (by omega), if_pos rfl]
    rw [hstep]
    unfold whenN
    rw [if_pos (by rw [is_of t2]; decide), name_it t3, made_it (hMade hlk), then_ok, hst]
    congr 1
    simp only [List.length_append, List.length_cons, List.length_nil]
    omega
  by_cases h26 : op = 26
  · subst h26
    have hk2 := F.k2 (by omega)
    have hn0 := F.n0 (by omega) (by omega)
    have hg0 := hG 0 (by omega)
    have hg1 := hG 1 (by omega)
    have hz : ∀ j, (arg j).its 0 = (arg j).bareIt := fun j => by unfold Ex.its wrapI; rw [if_neg (by have := (strOf_bd (arg j).op).1; omega)]
    have hb : bareI 26 name n k (fun i least => (arg i).its least) = itOf [109, 101, 114, 103, 101] :: itNm name :: ((itOf [40] :: ((arg 0).bareIt ++ [itOf [41]])) ++ (itOf [40] :: ((arg 1).bareIt ++ [itOf [41]]))) := by
      show itOf [109, 101, 114, 103, 101] :: itNm name :: itOf [40] :: ((arg 0).its 0 ++ (itOf [41] :: itOf [40] :: ((arg 1).its 0 ++ [itOf [41]]))) = _
      rw [hz, hz]
      simp
    rw [hb] at hH hw hno ⊢
    have t1 := hH.head.2
    have t2 := hH.tail.head.2
    have hL := hH.tail.tail.left
    have hR := hH.tail.tail.right
    have ho : op1N l i = 0 := by rw [op1_sign t1]; decide
    have hk4 : (tkN l i).kind = 4 := congrArg It.kind t1
    obtain ⟨a, hal, ha⟩ := within_it (s := s) (f := fun a i2 => withinN s l (exprN s l d) i2 fun b i3 => madeN (mkEx 26 name 0 [a, b] (lnN s l i) (clN s l i)) i3) (hAB 0 (by omega)).2 (d := d) (by omega) (by omega) hL (strOf_bd _).1
    obtain ⟨b, hbl, hbb⟩ := within_it (s := s) (f := fun b i3 => madeN (mkEx 26 name 0 [a, b] (lnN s l i) (clN s l i)) i3) (hAB 1 (by omega)).2 (d := d) (by omega) (by omega) hR (strOf_bd _).1
    have hlk : (mkEx 26 name 0 [a, b] (lnN s l i) (clN s l i)).like (.mk 26 name n k arg l1 c1) := by
      subst hn0
      exact like_mk hk2.symm (fun j hj => by
        have : j = 0 ∨ j = 1 := by simp at hj; omega
        rcases this with rfl | rfl
        · exact hal
        · exact hbl)
    refine ⟨_, 0, hlk, by omega, fun f => ?_⟩
    refine one_it ?_ (sig_ten ho)
    unfold prefN
    rw [if_pos ho]
    unfold aloneN
    rw [if_neg (by omega), if_neg (by rw [is_of t1]; decide), if_neg (by rw [is_of t1]; decide), if_neg (by omega), if_pos (by rw [is_of t1]; decide), name_it t2, ha, hbb, made_it (hMade hlk)]
    congr 1
    simp only [List.length_append, List.length_cons, List.length_nil]
    omega
  have h27 : op ≠ 27 := fun h => by
    subst h
    have : strOf 27 = 0 := by decide
    omega
  have hsg : (7 ≤ op ∧ op ≤ 20) ∨ op = 22 ∨ op = 23 := by omega
  have hk2 := F.k2 (by omega)
  have hn0 := F.n0 (by omega) (by omega)
  have hnm := name_nil (F.bare (by omega))
  have hg0 := hG 0 (by omega)
  have hg1 := hG 1 (by omega)
  have hst := str_cases (op := op) (by omega)
  rw [bareI_two hsg] at hH hw hno ⊢
  obtain ⟨J, hJ⟩ : ∃ J, J = i + ((arg 0).its (leftOf op)).length := ⟨_, rfl⟩
  have hR := hH.right
  rw [← hJ] at hR
  have t1 := hR.head.2
  obtain ⟨hot, hoo⟩ := opText_sgn hsg
  have hopJ : opN l J = op := by rw [op_of t1, hot]
  obtain ⟨x, c, sg, hxl, hc, hsgn, he⟩ := left_A (hAB 0 (by omega)).1 (hAB 0 (by omega)).2 (op := op) (d := d) (least := least) hst.1 hst.2.1 (by omega) (by omega) hH.left hle (by rw [← hJ]; exact hopJ) (by rw [← hJ, is_of t1, hoo])
  rw [← hJ] at he
  have hend : i + ((arg 0).its (leftOf op) ++ (itOf (sgnOf op).data.toList :: (arg 1).its (rightOf op))).length = J + 1 + ((arg 1).its (rightOf op)).length := by
    simp only [List.length_append, List.length_cons]; omega
  rw [hend] at hw ⊢
  have hw1 : Weak l (rightOf op) (J + 1 + ((arg 1).its (rightOf op)).length) := by
    have hq : fromE op = rightOf op := by unfold fromE; rw [if_pos hsg]; rfl
    rw [hq] at hw
    exact hw
  have hro : 0 ≤ rightOf op ∧ rightOf op ≤ 9 := by unfold rightOf; split <;> omega
  obtain ⟨y, hyl, hy⟩ := part_B (hargs 1 (by omega)) (hAB 1 (by omega)).1 (hAB 1 (by omega)).2 (d := d) (by omega) (by omega) hR.tail hro.1 hro.2 hw1
  have hlk : (mkEx op ⟨#[]⟩ 0 [x, y] (lnN s l J) (clN s l J)).like (.mk op name n k arg l1 c1) := by
    subst hnm; subst hn0
    exact like_mk hk2.symm (fun j hj => by
      have : j = 0 ∨ j = 1 := by simp at hj; omega
      rcases this with rfl | rfl
      · exact hxl
      · exact hyl)
  refine ⟨_, c + 1, hlk, by simp only [List.length_append, List.length_cons]; omega, fun f => ?_⟩
  have hE := he (f + 1)
  rw [show f + 1 + c = f + (c + 1) by omega] at hE
  rw [hE]
  have hstep : loopN s l (exprN s l d) least (f + 1) x sg J = twoN s l (exprN s l d) x J op (fromOf op) fun e1 i1 => loopN s l (exprN s l d) least f e1 (strOf op) i1 := by
    show (if _ then _ else _) = _
    rw [hopJ, if_neg (by omega), if_neg h24]
  rw [hstep]
  unfold twoN
  rw [show fromOf op = rightOf op from rfl, hy, then_ok, made_it (hMade hlk), then_ok]
theorem reads_PN {op : Int} {name : ByteArray} {n : Int} {k : Nat} {arg : Nat → Ex} {l1 c1 : Int} (hfine : (Ex.mk op name n k arg l1 c1).fine) (hN : ∀ i, i < k → PN l (arg i)) : PN l (.mk op name n k arg l1 c1) := by
  intro i h1 hH
  obtain ⟨hp, hn, hargs⟩ := id hfine
  have F := plain_facts hp
  have hlo := F.lo
  have hhi := F.hi
  rw [bareIt_mk] at hH
  simp only [Ex.op] at h1
  have hof : ∀ {t : List UInt8} {v : List It}, Here l i (itOf t :: v) → (t == wIf) = false → isN l i wIf = false := fun h ht => by rw [is_of h.head.2]; exact ht
  by_cases e1 : op = 1
  · subst e1; exact is_no hH.head.2 (.inr (.inl rfl)) _
  by_cases e2 : op = 2
  · subst e2
    have hb : bareI 2 name n k (fun i least => (arg i).its least) = if n = 1 then [itOf [116, 114, 117, 101]] else [itOf [102, 97, 108, 115, 101]] := rfl
    rw [hb] at hH
    by_cases hn1 : n = 1
    · rw [if_pos hn1] at hH; exact hof hH (by decide)
    · rw [if_neg hn1] at hH; exact hof hH (by decide)
  by_cases e3 : op = 3
  · subst e3; exact name_is hH.head.2 _
  by_cases e4 : op = 4
  · subst e4; exact name_is hH.head.2 _
  by_cases e5 : op = 5
  · subst e5; exact hof hH (by decide)
  by_cases e6 : op = 6
  · subst e6; exact hof hH (by decide)
  by_cases e21 : op = 21
  · subst e21; exact hof hH (by decide)
  by_cases e24 : op = 24
  · subst e24; exact part_N (hN 0 (by rw [F.k1 (by omega)]; omega)) (lst := 3) (by omega) (Here.left (a := (arg 0).its 3) hH)
  by_cases e25 : op = 25
  · subst e25; exact part_N (hN 0 (by rw [F.k1 (by omega)]; omega)) (lst := 3) (by omega) (Here.left (a := (arg 0).its 3) hH)
  by_cases e26 : op = 26
  · subst e26; exact hof hH (by decide)
  have h27 : op ≠ 27 := fun h => by
    subst h
    have : strOf 27 = 0 := by decide
    omega
  have hsg : (7 ≤ op ∧ op ≤ 20) ∨ op = 22 ∨ op = 23 := by omega
  rw [bareI_two hsg] at hH
  refine part_N (hN 0 (by rw [F.k2 (by omega)]; omega)) (lst := leftOf op) ?_ hH.left
  unfold leftOf
  split <;> (try split) <;> omega
theorem reads_PB {op : Int} {name : ByteArray} {n : Int} {k : Nat} {arg : Nat → Ex} {l1 c1 : Int} (hfine : (Ex.mk op name n k arg l1 c1).fine) (hA : PA s l (.mk op name n k arg l1 c1)) (hN : PN l (.mk op name n k arg l1 c1)) (hAB : ∀ i, i < k → PA s l (arg i) ∧ PB s l (arg i)) : PB s l (.mk op name n k arg l1 c1) := by
  intro d st i hd hh hH h0 h9 hle hw
  have hp := height_pos hfine
  have hlen := bareIt_pos _ hfine
  have hb := hH.bound hlen
  obtain ⟨d, rfl⟩ : ∃ x, d = x + 1 := ⟨d - 1, by omega⟩
  have hexp : exprN s l (d + 1) st i = oneN s l (exprN s l d) st i := if_pos ⟨by omega, h0, h9⟩
  rw [hexp]
  by_cases h1 : 1 ≤ strOf op
  · obtain ⟨e', c, hlk, hc, he⟩ := hA d st i (by omega) hh hH hle h1 (hw.mono (Int.le_trans hle (fromE_ge _)))
    refine ⟨e', hlk, ?_⟩
    unfold oneN
    rw [if_neg (by rw [hN i h1 hH]; simp)]
    have := he (l.length - c)
    rw [show l.length - c + c = l.length by omega] at this
    rw [this]
    exact loop_weak hw
  · have hG : ∀ j, j < k → (arg j).height + 1 ≤ (Ex.mk op name n k arg l1 c1).height := fun j hj => arg_height j hj
    obtain ⟨hpl, hn, hargs⟩ := id hfine
    have F := plain_facts hpl
    have hs := strOf_bd op
    simp only [Ex.op] at hle
    have h27 : op = 27 := by
      have hlo := F.lo
      have hhi := F.hi
      have : ∀ j : Nat, j < 26 → 1 ≤ strL[j]?.getD 0 := by decide
      by_cases hx : op = 27
      · exact hx
      · have hj := this (op - 1).toNat (by omega)
        unfold strOf at h1
        rw [if_neg (by omega)] at h1
        omega
    subst h27
    obtain rfl : st = 0 := by omega
    have hk3 := F.k3 rfl
    have hn0 := F.n0 (by omega) (by omega)
    have hnm := name_nil (F.bare (by omega))
    have hb3 : bareI 27 name n k (fun i least => (arg i).its least) = itOf [105, 102] :: ((arg 0).its 0 ++ (itOf [116, 104, 101, 110] :: ((arg 1).its 0 ++ (itOf [101, 108, 115, 101] :: (arg 2).its 0)))) := rfl
    rw [bareIt_mk, hb3] at hH hw ⊢
    have hg0 := hG 0 (by omega)
    have hg1 := hG 1 (by omega)
    have hg2 := hG 2 (by omega)
    have t1 := hH.head.2
    have hH1 := hH.tail
    have t2 := hH1.right.head.2
    have hH2 := hH1.right.tail
    have t3 := hH2.right.head.2
    have hH3 := hH2.right.tail
    obtain ⟨J1, hJ1⟩ : ∃ J, J = i + 1 + ((arg 0).its 0).length := ⟨_, rfl⟩
    rw [← hJ1] at t2 hH2 t3 hH3
    obtain ⟨J2, hJ2⟩ : ∃ J, J = J1 + 1 + ((arg 1).its 0).length := ⟨_, rfl⟩
    rw [← hJ2] at t3 hH3
    have hend : i + (itOf [105, 102] :: ((arg 0).its 0 ++ (itOf [116, 104, 101, 110] :: ((arg 1).its 0 ++ (itOf [101, 108, 115, 101] :: (arg 2).its 0))))).length = J2 + 1 + ((arg 2).its 0).length := by
      simp only [List.length_append, List.length_cons]; omega
    rw [hend] at hw ⊢
    obtain ⟨x, hxl, hx⟩ := part_B (hargs 0 (by omega)) (hAB 0 (by omega)).1 (hAB 0 (by omega)).2 (d := d) (by omega) (by omega) hH1.left (Int.le_refl _) (by omega) (by rw [← hJ1]; exact weak_end t2 (by decide) (by decide))
    obtain ⟨y, hyl, hy⟩ := part_B (hargs 1 (by omega)) (hAB 1 (by omega)).1 (hAB 1 (by omega)).2 (d := d) (by omega) (by omega) hH2.left (Int.le_refl _) (by omega) (by rw [← hJ2]; exact weak_end t3 (by decide) (by decide))
    obtain ⟨z, hzl, hz⟩ := part_B (hargs 2 (by omega)) (hAB 2 (by omega)).1 (hAB 2 (by omega)).2 (d := d) (by omega) (by omega) hH3 (Int.le_refl _) (by omega) hw
    have hlk : (mkEx 27 ⟨#[]⟩ 0 [x, y, z] (lnN s l i) (clN s l i)).like (.mk 27 name n k arg l1 c1) := by
      subst hnm; subst hn0
      exact like_mk hk3.symm (fun j hj => by
        have : j = 0 ∨ j = 1 ∨ j = 2 := by simp at hj; omega
        rcases this with rfl | rfl | rfl
        · exact hxl
        · exact hyl
        · exact hzl)
    refine ⟨_, hlk, ?_⟩
    unfold oneN
    rw [if_pos ⟨rfl, by rw [is_of t1]; decide⟩]
    unfold choiceN
    rw [want_it (w := wIf) t1, hx, then_ok, ← hJ1, want_it (w := wThen) t2, hy, then_ok, ← hJ2, want_it (w := wElse) t3, hz, then_ok, made_it (two_height hlk hfine hh)]
theorem reads_E : ∀ e : Ex, e.fine → PA s l e ∧ PB s l e ∧ PN l e := by
  intro e
  induction e with
  | junk => intro h; exact h.elim
  | mk op name n k arg l1 c1 ih =>
    intro h
    have hi : ∀ i, i < k → PA s l (arg i) ∧ PB s l (arg i) ∧ PN l (arg i) := fun i hi => ih i (h.2.2 i hi)
    have hN := reads_PN h fun i hk => (hi i hk).2.2
    have hA := reads_PA h fun i hk => ⟨(hi i hk).1, (hi i hk).2.1⟩
    exact ⟨hA, reads_PB h hA hN fun i hk => ⟨(hi i hk).1, (hi i hk).2.1⟩, hN⟩
end
/-- THE LAW: an expression's text is read as it was, but for places -/
theorem expr_back {s : ByteArray} {e : Ex} (hf : e.fine) (hh : e.height ≤ 30) (hs : s.data.toList = e.txt 0) {l : List Tk} (hsc : scanOf s = .toks l) : ∃ e', e'.like e ∧ exprN s l 64 0 0 = .ok e' (e.its 0).length ∧ (tkN l (e.its 0).length).kind = 5 := by
  have hlex := lex_scan hsc
  obtain ⟨js, hj, hl⟩ := (lex_txt hf 0).1 [] [] _ nil_blank (fun c v h => by cases h) (by rw [hs] at hlex; simpa using hlex)
  have hjs := lex_end (w := []) nil_blank hl
  rw [hjs] at hj
  have hat : ∀ (j : Nat), j < (e.its 0 ++ [itEnd]).length → j < l.length ∧ some (tkN l j).it = (e.its 0 ++ [itEnd])[j]? := fun j hj2 => by
    have hlen : l.length = (e.its 0 ++ [itEnd]).length := by rw [← hj, List.length_map]
    refine ⟨by omega, ?_⟩
    rw [← hj, List.getElem?_map]
    unfold tkN
    rw [List.getElem?_eq_getElem (by omega)]
    rfl
  have hH : Here l 0 (e.its 0) := fun j hj2 => by
    obtain ⟨h1, h2⟩ := hat j (by rw [List.length_append]; omega)
    rw [Nat.zero_add]
    refine ⟨h1, ?_⟩
    rw [List.getElem?_append_left hj2, List.getElem?_eq_getElem hj2] at h2
    injection h2
  obtain ⟨h1, h2⟩ := hat (e.its 0).length (by simp)
  rw [List.getElem?_append_right (Nat.le_refl _), Nat.sub_self] at h2
  have hend : (tkN l (e.its 0).length).it = itEnd := by injection h2
  have hk : (tkN l (e.its 0).length).kind = 5 := congrArg It.kind hend
  have hw : Weak l 0 (0 + (e.its 0).length) := by
    rw [Nat.zero_add]
    refine ⟨.inl ?_, is_no hend (.inr (.inr rfl)) _⟩
    unfold opN
    rw [if_neg (by omega)]
  obtain ⟨hA, hB, _⟩ := reads_E (s := s) (l := l) e hf
  obtain ⟨e', hlk, he⟩ := part_B hf hA hB (d := 64) (by omega) hh hH (Int.le_refl _) (by omega) hw
  rw [Nat.zero_add] at he
  exact ⟨e', hlk, he, hk⟩
end Go.Proofs.YtnlikhjmmnaknaaGreatDoor
