/-
  Where something is wrong in a text, the place is told: its line and its column are at least 1.
-/
import Derived.Test.YtnlikhjmmnaknaaGreatDoorGS
import Derived.Test.YtnlikhjmmnaknaaGreatDoorHParO
namespace Go.Proofs.YtnlikhjmmnaknaaGreatDoor
open Go.RowKit

/-- a place, of an error that is one -/
def AtP (er ln cl : Int) : Prop := er ≠ 0 → 1 ≤ ln ∧ 1 ≤ cl
def PR.pl (r : PR) : Prop := match r with
  | .ok e _ => 1 ≤ e.line ∧ 1 ≤ e.col
  | .bad er ln cl => AtP er ln cl
def Md.pl (m : Md) : Prop := ∀ er ln cl, m = .bad er ln cl → AtP er ln cl
section
variable {s : ByteArray} {l : List Tk}
theorem at_ln (i : Nat) : 1 ≤ lnN s l i ∧ 1 ≤ clN s l i := by
  have := place_bd s (tkN l i).pos
  unfold lnN clN
  omega
theorem pl_bad {er : Int} {i : Nat} : (badN s l er i).pl := fun _ => at_ln i
theorem pl_then {r : PR} {f : Ex → Nat → PR} (h : r.pl) (hf : ∀ e i, 1 ≤ e.line ∧ 1 ≤ e.col → (f e i).pl) : (r.then f).pl := by
  cases r with
  | ok e i => exact hf e i h
  | bad a b c => exact h
theorem pl_want {w : List UInt8} {i : Nat} {f : Nat → PR} (hf : (f (i + 1)).pl) : (wantN s l w i f).pl := by
  unfold wantN
  split
  · exact hf
  · exact pl_bad
theorem pl_name {i : Nat} {f : ByteArray → Nat → PR} (hf : ∀ t, (f t (i + 1)).pl) : (nameN s l i f).pl := by
  unfold nameN
  split
  · exact hf _
  · exact pl_bad
theorem pl_ok {op : Int} {name : ByteArray} {n : Int} {xs : List Ex} {i j : Nat} : (PR.ok (mkEx op name n xs (lnN s l i) (clN s l i)) j).pl := at_ln i
theorem pl_made {op : Int} {name : ByteArray} {n : Int} {xs : List Ex} {i j : Nat} : (madeN (mkEx op name n xs (lnN s l i) (clN s l i)) j).pl := by
  unfold madeN
  split
  · exact fun _ => at_ln i
  · exact at_ln i
variable {rec : Int → Nat → PR}
def PlR (rec : Int → Nat → PR) : Prop := ∀ x i, (rec x i).pl
theorem pl_within (hA : PlR rec) {i : Nat} {f : Ex → Nat → PR} (hf : ∀ e i1, 1 ≤ e.line ∧ 1 ≤ e.col → (f e i1).pl) : (withinN s l rec i f).pl :=
  pl_want (pl_then (hA 0 _) fun _ _ h2 => pl_want (hf _ _ h2))
theorem pl_choice (hA : PlR rec) {i : Nat} : (choiceN s l rec i).pl :=
  pl_want (pl_then (hA 0 _) fun _ _ _ => pl_want (pl_then (hA 0 _) fun _ _ _ => pl_want (pl_then (hA 0 _) fun _ _ _ => pl_made)))
theorem pl_args (hA : PlR rec) {name : ByteArray} {at_ : Nat} : ∀ (k : Nat) (xs : List Ex) (i : Nat), (argsN s l rec name at_ k xs i).pl := by
  intro k
  induction k with
  | zero =>
    intro xs i
    unfold argsN
    split
    · exact pl_bad
    · exact pl_want pl_made
  | succ k ih =>
    intro xs i
    unfold argsN
    split
    · exact pl_then (hA 0 _) fun e i1 _ => ih _ _
    · exact pl_want pl_made
theorem pl_alone (hA : PlR rec) {i : Nat} : (aloneN s l rec i).pl := by
  unfold aloneN
  split
  · exact pl_ok
  split
  · exact pl_ok
  split
  · exact pl_ok
  split
  · split
    · exact pl_then (hA 0 _) fun e i1 _ => pl_args hA _ _ _
    · exact pl_ok
  split
  · exact pl_name fun _ => pl_within hA fun _ _ _ => pl_within hA fun _ _ _ => pl_made
  · exact pl_within hA fun _ _ h => h
theorem pl_pref (hA : PlR rec) {i : Nat} : (prefN s l rec i).pl := by
  unfold prefN
  split
  · exact pl_alone hA
  · exact pl_then (hA 9 _) fun x _ _ => pl_made
theorem pl_when {e : Ex} {i : Nat} {f : Ex → Nat → PR} (hf : ∀ e1 i1, 1 ≤ e1.line ∧ 1 ≤ e1.col → (f e1 i1).pl) : (whenN s l e i f).pl := by
  unfold whenN
  split
  · exact pl_name fun _ => pl_then pl_made hf
  · exact pl_name fun _ => pl_then pl_made hf
theorem pl_loop (hA : PlR rec) (least : Int) : ∀ (f : Nat) (e : Ex) (sg : Int) (i : Nat), 1 ≤ e.line ∧ 1 ≤ e.col → (loopN s l rec least f e sg i).pl := by
  intro f
  induction f with
  | zero => intro e sg i he; exact he
  | succ f ih =>
    intro e sg i he
    unfold loopN
    split
    · exact he
    split
    · exact pl_when fun e1 i1 h1 => ih _ _ _ h1
    · exact pl_then (hA _ _) fun r i1 _ => pl_then pl_made fun e1 i2 h1 => ih _ _ _ h1
theorem pl_expr : ∀ d, PlR (exprN s l d) := by
  intro d
  induction d with
  | zero => intro x i; exact pl_bad
  | succ d ih =>
    intro x i
    unfold exprN
    split
    · unfold oneN
      split
      · exact pl_choice ih
      · exact pl_then (pl_pref ih) fun e i1 h1 => pl_loop ih x _ _ _ _ h1
    · exact fun h => absurd rfl h

/-! the source -/
theorem mpl_ok {i : Nat} : (Md.ok i).pl := fun _ _ _ h => by cases h
theorem mpl_err {m : Md} (h : m.pl) {e : Int} : (m.err s l e).pl := by
  cases m with
  | ok i => intro a b c hh; injection hh with h1 h2 h3; subst h1 h2 h3; exact fun _ => at_ln i
  | bad a b c => exact h
theorem mpl_take {m : Md} (h : m.pl) {t : List UInt8} : (m.take l t).pl := by
  cases m with
  | ok i =>
    show Md.pl (if isN l i t = true then Md.ok (i + 1) else Md.ok i)
    split <;> exact mpl_ok
  | bad a b c => exact h
theorem mpl_bad {er : Int} {i : Nat} : (Md.bad er (lnN s l i) (clN s l i)).pl := fun a b c hh => by injection hh with h1 h2 h3; subst h1 h2 h3; exact fun _ => at_ln i
theorem mpl_want {m : Md} (h : m.pl) {t : List UInt8} : (m.want s l t).pl := by
  cases m with
  | ok i =>
    show Md.pl (if isN l i t = true then Md.ok (i + 1) else Md.bad 21 (lnN s l i) (clN s l i))
    split
    · exact mpl_ok
    · exact mpl_bad
  | bad a b c => exact h
theorem mpl_name {m : Md} (h : m.pl) {f : Bool} : (m.name s l f).pl := by
  cases m with
  | ok i =>
    show Md.pl (if (tkN l i).kind = 1 then (if f = true then .bad 3 (lnN s l i) (clN s l i) else .ok (i + 1)) else .bad 21 (lnN s l i) (clN s l i))
    split
    · split
      · exact mpl_bad
      · exact mpl_ok
    · exact mpl_bad
  | bad a b c => exact h
theorem mpl_kind {m : Md} (h : m.pl) : (kindP s l m).2.pl := by
  unfold kindP
  split
  · exact mpl_take h
  · exact mpl_want h
theorem mpl_lits : ∀ (k : Nat) (xs : List LitE) {m : Md}, m.pl → (litsP s l k xs m).2.pl := by
  intro k
  induction k with
  | zero =>
    intro xs m h
    unfold litsP
    split
    · exact mpl_err h
    · exact h
  | succ k ih =>
    intro xs m h
    unfold litsP
    split
    · exact ih _ (mpl_name (mpl_take (mpl_take h)))
    · exact h
theorem mpl_names {most : Nat} : ∀ (k : Nat) (xs : List VarE) {m : Md}, m.pl → (namesP s l most k xs m).2.pl := by
  intro k
  induction k with
  | zero => intro xs m h; exact h
  | succ k ih =>
    intro xs m h
    unfold namesP
    split
    · exact ih _ (mpl_take (mpl_name h))
    · exact mpl_name h
theorem mpl_group {most : Nat} {xs : List VarE} {m : Md} (h : m.pl) : (groupP s l most xs m).2.pl :=
  mpl_lits _ _ (mpl_kind (mpl_want (mpl_names _ _ h)))
theorem mpl_portsGo : ∀ (k : Nat) (xs : List VarE) {m : Md}, m.pl → (portsGo s l k xs m).2.pl := by
  intro k
  induction k with
  | zero => intro xs m h; exact h
  | succ k ih =>
    intro xs m h
    unfold portsGo
    split
    · exact ih _ (mpl_take (mpl_group h))
    · exact mpl_group h
theorem mpl_ports {m : Md} (h : m.pl) : (portsP s l m).2.pl := mpl_want (mpl_portsGo _ _ (mpl_want h))
theorem mpl_localsGo : ∀ (k : Nat) (xs : List VarE) {m : Md}, m.pl → (localsGo s l k xs m).2.pl := by
  intro k
  induction k with
  | zero => intro xs m h; exact h
  | succ k ih =>
    intro xs m h
    unfold localsGo
    split
    · exact mpl_want (mpl_group h)
    · exact ih _ (mpl_want (mpl_group h))
theorem mpl_locals {m : Md} (h : m.pl) : (localsP s l m).2.pl := by
  unfold localsP
  split
  · exact mpl_localsGo _ _ (mpl_take h)
  · exact h
theorem mpl_strs : ∀ (k : Nat) (xs : List ByteArray) {m : Md}, m.pl → (strsP s l k xs m).2.pl := by
  intro k
  induction k with
  | zero => intro xs m h; exact h
  | succ k ih =>
    intro xs m h
    unfold strsP
    split
    · exact ih _ (mpl_take (mpl_name h))
    · exact mpl_name h
theorem mpl_left {n : Nat} {m : Md} (h : m.pl) : (leftP s l n m).2.pl := by
  unfold leftP
  split
  · refine mpl_want (mpl_strs _ _ (mpl_want ?_))
    split
    · exact mpl_err h
    · exact h
  · exact mpl_name h
theorem mpl_ex {m : Md} (h : m.pl) : (exP s l m).2.pl := by
  unfold exP Md.seq
  cases m with
  | ok i =>
    dsimp only
    have hr := pl_expr (s := s) (l := l) 64 0 i
    cases hx : exprN s l 64 0 i with
    | ok e i1 => exact mpl_ok
    | bad a b c => rw [hx] at hr; intro a1 b1 c1 hh; injection hh with h1 h2 h3; subst h1 h2 h3; exact hr
  | bad a b c => exact h
theorem mpl_eq {n : Nat} {m : Md} (h : m.pl) : (eqP s l n m).2.pl := mpl_want (mpl_ex (mpl_want (mpl_left h)))
theorem mpl_eqs : ∀ (k : Nat) (xs : List EqE) {m : Md}, m.pl → (eqsGo s l k xs m).2.pl := by
  intro k
  induction k with
  | zero => intro xs m h; exact h
  | succ k ih =>
    intro xs m h
    unfold eqsGo
    split
    · exact mpl_take (mpl_eq h)
    · exact ih _ (mpl_eq h)
theorem mpl_node {m : Md} (h : m.pl) : (nodeP s l m).2.pl :=
  mpl_eqs _ _ (mpl_want (mpl_locals (mpl_want (mpl_ports (mpl_want (mpl_ports (mpl_name (mpl_want h))))))))
theorem mpl_src : ∀ (k : Nat) (xs : List NodeE) {m : Md}, m.pl → (srcGo s l k xs m).2.pl := by
  intro k
  induction k with
  | zero => intro xs m h; exact h
  | succ k ih =>
    intro xs m h
    have h1 : (if xs.length = 16 ∧ m.is l wNode = true then m.err s l 3 else m).pl := by
      split
      · exact mpl_err h
      · exact h
    unfold srcGo
    dsimp only
    generalize (if xs.length = 16 ∧ m.is l wNode = true then m.err s l 3 else m) = m' at *
    split
    · exact mpl_node h1
    · exact ih _ (mpl_node h1)
end
/-- where something is wrong with a source -/
theorem source_at {s : ByteArray} {xs : List NodeE} {er ln cl : Int} (h : sourceOf s = (xs, .bad er ln cl)) (h0 : er ≠ 0) : 1 ≤ ln ∧ 1 ≤ cl := by
  unfold sourceOf at h
  cases hsc : scanOf s with
  | bad e p =>
    rw [hsc] at h
    injection h with _ h
    injection h with _ h2 h3
    have := place_bd s p
    omega
  | toks l =>
    rw [hsc] at h
    dsimp only at h
    exact mpl_src (s := s) (l := l) 17 [] mpl_ok er ln cl (by rw [h]) h0
end Go.Proofs.YtnlikhjmmnaknaaGreatDoor
