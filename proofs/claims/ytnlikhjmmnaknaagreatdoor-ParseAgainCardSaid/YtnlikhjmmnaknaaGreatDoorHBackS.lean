/-
  What is shown of a source is parsed as it was, but for places: in plain Lean.
-/
import Derived.Test.YtnlikhjmmnaknaaGreatDoorHBackE
import Derived.Test.YtnlikhjmmnaknaaGreatDoorHLexS
import Derived.Test.YtnlikhjmmnaknaaGreatDoorGS
namespace Go.Proofs.YtnlikhjmmnaknaaGreatDoor
open Go.RowKit

def VarE.like (a b : VarE) : Prop := a.name = b.name ∧ a.type = b.type ∧ a.clock = b.clock
def EqE.like (a b : EqE) : Prop := a.left = b.left ∧ a.right.like b.right
/-- lists whose members are alike -/
def AllLike {α : Type} (p : α → α → Prop) (xs ys : List α) : Prop := xs.length = ys.length ∧ ∀ i (h1 : i < xs.length) (h2 : i < ys.length), p xs[i] ys[i]
theorem AllLike.nil {α : Type} (p : α → α → Prop) : AllLike p [] [] := ⟨rfl, fun i h => absurd h (by simp)⟩
theorem AllLike.push {α : Type} {p : α → α → Prop} {xs ys : List α} {x y : α} (h : AllLike p xs ys) (hp : p x y) : AllLike p (xs ++ [x]) (ys ++ [y]) := by
  refine ⟨by simp [h.1], fun i h1 h2 => ?_⟩
  by_cases hi : i < xs.length
  · have hi2 : i < ys.length := by rw [← h.1]; exact hi
    rw [List.getElem_append_left hi, List.getElem_append_left hi2]
    exact h.2 i hi hi2
  · have : i = xs.length := by simp at h1; omega
    subst this
    have hy : xs.length = ys.length := h.1
    rw [List.getElem_append_right (Nat.le_refl _), List.getElem_append_right (by omega)]
    simpa [hy] using hp
def NodeE.like (a b : NodeE) : Prop := a.name = b.name ∧ AllLike VarE.like a.ins b.ins ∧ AllLike VarE.like a.outs b.outs ∧ AllLike VarE.like a.vars b.vars ∧ AllLike EqE.like a.eqs b.eqs

section
variable {s : ByteArray} {l : List Tk}
theorem md_is {i : Nat} {t : List UInt8} (h : (tkN l i).it = itOf t) (w : List UInt8) : (Md.ok i).is l w = (t == w) := is_of h w
theorem md_take {i : Nat} {t : List UInt8} (h : (tkN l i).it = itOf t) : (Md.ok i).take l t = .ok (i + 1) := if_pos (by rw [is_of h]; simp)
theorem md_want {i : Nat} {t : List UInt8} (h : (tkN l i).it = itOf t) : (Md.ok i).want s l t = .ok (i + 1) := if_pos (by rw [is_of h]; simp)
theorem md_name {i : Nat} {x : ByteArray} (h : (tkN l i).it = itNm x) : (Md.ok i).name s l false = .ok (i + 1) := by
  have hk := (tk_name h).1
  unfold Md.name
  dsimp only
  rw [if_pos hk, if_neg (by simp)]
theorem md_text {i : Nat} {x : ByteArray} (h : (tkN l i).it = itNm x) : (Md.ok i).text l = x := (tk_name h).2
theorem md_no {i : Nat} {x : ByteArray} (h : (tkN l i).it = itNm x) (w : List UInt8) : (Md.ok i).is l w = false := name_is h w

theorem lits_back : ∀ (c : List LitE) (k : Nat) (xs : List LitE) (i : Nat), c.length ≤ k → Here l i (c.flatMap litI) → isN l (i + (c.flatMap litI).length) wWhen = false → litsP s l k xs (.ok i) = (xs ++ c, .ok (i + (c.flatMap litI).length)) := by
  intro c
  induction c with
  | nil =>
    intro k xs i _ _ hno
    simp only [List.flatMap_nil, List.length_nil, Nat.add_zero, List.append_nil] at hno ⊢
    unfold litsP
    rw [if_neg (by show ¬ isN l i wWhen = true; rw [hno]; simp)]
  | cons a c ih =>
    intro k xs i hk hH hno
    obtain ⟨k, rfl⟩ : ∃ x, k = x + 1 := ⟨k - 1, by simp at hk; omega⟩
    rw [List.flatMap_cons] at hH
    have hL := hH.left
    have hR := hH.right
    have hlen : i + ((a :: c).flatMap litI).length = i + (litI a).length + (c.flatMap litI).length := by rw [List.flatMap_cons, List.length_append]; omega
    rw [hlen] at hno ⊢
    have hr := ih k (xs ++ [a]) (i + (litI a).length) (by simp at hk; omega) hR hno
    unfold litI at hL
    have t1 := hL.head.2
    have hw : (Md.ok i).take l wWhen = .ok (i + 1) := md_take (t := wWhen) t1
    unfold litsP
    rw [if_pos (by rw [md_is t1]; decide)]
    dsimp only
    rw [hw]
    by_cases hn : a.neg = true
    · rw [if_pos hn] at hL
      have t2 := hL.tail.head.2
      have t3 := hL.tail.tail.head.2
      have e2 : (Md.ok (i + 1)).take l wNot = .ok (i + 1 + 1) := md_take (t := wNot) t2
      have e3 : (Md.ok (i + 1)).is l wNot = true := by rw [md_is t2]; decide
      have hlit : i + 1 + 1 + 1 = i + (litI a).length := by unfold litI; rw [if_pos hn]; rfl
      rw [e2, e3, md_text t3, md_name t3, hlit]
      have ha : (⟨a.name, true⟩ : LitE) = a := by cases a; simp at hn; subst hn; rfl
      rw [ha, hr]
      simp
    · rw [if_neg hn] at hL
      have t2 := hL.tail.head.2
      have e3 : (Md.ok (i + 1)).is l wNot = false := md_no t2 _
      have e2 : (Md.ok (i + 1)).take l wNot = .ok (i + 1) := take_not e3
      have hlit : i + 1 + 1 = i + (litI a).length := by unfold litI; rw [if_neg hn]; rfl
      rw [e2, e3, md_text t2, md_name t2, hlit]
      have ha : (⟨a.name, false⟩ : LitE) = a := by cases a; simp at hn; subst hn; rfl
      rw [ha, hr]
      simp
theorem group_back {v : VarE} {most : Nat} {xs : List VarE} {i : Nat} (hv : v.fine) (hm : xs.length < most) (hH : Here l i (varI v)) (hno : isN l (i + (varI v).length) wWhen = false) : ∃ v', v'.like v ∧ groupP s l most xs (.ok i) = (xs ++ [v'], .ok (i + (varI v).length)) := by
  unfold varI at hH
  have t1 := hH.head.2
  have t2 := hH.tail.head.2
  have t3 := hH.tail.tail.head.2
  have hc := hH.tail.tail.tail
  have hlen : i + (varI v).length = i + 1 + 1 + 1 + (v.clock.flatMap litI).length := by unfold varI; simp only [List.length_cons]; omega
  rw [hlen] at hno ⊢
  have hd : decide (most ≤ xs.length) = false := by simp; omega
  have hnm : (Md.ok i).name s l (decide (most ≤ xs.length)) = .ok (i + 1) := by rw [hd]; exact md_name t1
  have hn : namesP s l most (most + 1 - xs.length) xs (.ok i) = (xs ++ [⟨v.name, 0, [], lnN s l i, clN s l i⟩], .ok (i + 1)) := by
    rw [show most + 1 - xs.length = (most - xs.length) + 1 by omega]
    unfold namesP
    rw [hnm, if_neg (by rw [md_is t2]; decide), md_text t1]
    rfl
  have hk : kindP s l (.ok (i + 1 + 1)) = (v.type, .ok (i + 1 + 1 + 1)) := by
    unfold kindP
    by_cases ht : v.type = 1
    · rw [if_pos ht] at t3
      rw [if_pos (by rw [md_is t3]; decide), md_take (t := wInt) t3, ht]
    · rw [if_neg ht] at t3
      rw [if_neg (by rw [md_is t3]; decide), md_want (t := wBool) t3, hv.2.1.resolve_left ht]
  have hl := lits_back (s := s) v.clock 4 [] _ hv.2.2.2 hc hno
  refine ⟨⟨v.name, v.type, v.clock, lnN s l i, clN s l i⟩, ⟨rfl, rfl, rfl⟩, ?_⟩
  unfold groupP
  dsimp only
  rw [hn]
  dsimp only
  rw [md_want (t := wColon) t2, hk]
  dsimp only
  rw [hl]
  unfold setVars
  simp

/-- variables between brackets: behind those that were read, one and more -/
theorem portsGo_back : ∀ (r : List VarE) (v : VarE) (k : Nat) (xs ys : List VarE) (i : Nat), (∀ x ∈ v :: r, x.fine) → AllLike VarE.like xs ys → xs.length + (r.length + 1) ≤ 8 → r.length + 1 ≤ k → Here l i (sepI [itOf [59]] varI (v :: r) ++ [itOf [41]]) →
    ∃ zs, AllLike VarE.like zs (ys ++ v :: r) ∧ portsGo s l k xs (.ok i) = (zs, .ok (i + (sepI [itOf [59]] varI (v :: r)).length)) := by
  intro r
  induction r with
  | nil =>
    intro v k xs ys i hf hxs hx8 hk hH
    obtain ⟨k, rfl⟩ : ∃ x, k = x + 1 := ⟨k - 1, by simp at hk; omega⟩
    have he : sepI [itOf [59]] varI [v] = varI v := by simp [sepI]
    rw [he] at hH ⊢
    have t1 := hH.right.head.2
    obtain ⟨v', hv, hg⟩ := group_back (s := s) (xs := xs) (most := 8) (hf v (List.mem_cons_self ..)) (by simp at hx8; omega) hH.left (by rw [is_of t1]; decide)
    refine ⟨xs ++ [v'], hxs.push hv, ?_⟩
    unfold portsGo
    rw [hg, if_neg (by rw [md_is t1]; decide)]
  | cons u r ih =>
    intro v k xs ys i hf hxs hx8 hk hH
    obtain ⟨k, rfl⟩ : ∃ x, k = x + 1 := ⟨k - 1, by simp at hk; omega⟩
    have he : sepI [itOf [59]] varI (v :: u :: r) = varI v ++ (itOf [59] :: sepI [itOf [59]] varI (u :: r)) := by simp [sepI]
    rw [he, List.append_assoc] at hH
    have t1 := hH.right.head.2
    obtain ⟨v', hv, hg⟩ := group_back (s := s) (xs := xs) (most := 8) (hf v (List.mem_cons_self ..)) (by simp at hx8; omega) hH.left (by rw [is_of t1]; decide)
    obtain ⟨zs, hz, hr⟩ := ih u k (xs ++ [v']) (ys ++ [v]) _ (fun x hx => hf x (List.mem_cons_of_mem _ hx)) (hxs.push hv) (by simp at hx8 ⊢; omega) (by simp at hk; omega) hH.right.tail
    refine ⟨zs, by simpa using hz, ?_⟩
    unfold portsGo
    rw [hg, if_pos (by rw [md_is t1]; decide)]
    dsimp only
    rw [md_take (t := wSemi) t1, hr, he]
    congr 2
    simp only [List.length_append, List.length_cons]
    omega
theorem ports_back {vs : List VarE} {i : Nat} (hf : ∀ x ∈ vs, x.fine) (h1 : 1 ≤ vs.length) (h8 : vs.length ≤ 8) (hH : Here l i (itOf [40] :: (varsI vs ++ [itOf [41]]))) : ∃ zs, AllLike VarE.like zs vs ∧ portsP s l (.ok i) = (zs, .ok (i + (itOf [40] :: (varsI vs ++ [itOf [41]])).length)) := by
  cases vs with
  | nil => simp at h1
  | cons v r =>
    have t1 := hH.head.2
    obtain ⟨zs, hz, hg⟩ := portsGo_back (s := s) r v 9 [] [] (i + 1) hf (AllLike.nil _) (by simp at h8 ⊢; omega) (by simp at h8; omega) hH.tail
    have t2 := hH.tail.right.head.2
    refine ⟨zs, by simpa using hz, ?_⟩
    unfold portsP
    rw [md_want (t := wOpen) t1, hg]
    dsimp only
    rw [show varsI (v :: r) = sepI [itOf [59]] varI (v :: r) from rfl] at t2 ⊢
    rw [md_want (t := wShut) t2]
    congr 2
    simp only [List.length_append, List.length_cons, List.length_nil]
    omega
theorem localsGo_back : ∀ (r : List VarE) (v : VarE) (k : Nat) (xs ys : List VarE) (i : Nat) (post : List It), (∀ x ∈ v :: r, x.fine) → AllLike VarE.like xs ys → xs.length + (r.length + 1) ≤ 40 → r.length + 1 ≤ k → Here l i ((v :: r).flatMap lineI ++ (itOf [108, 101, 116] :: post)) →
    ∃ zs, AllLike VarE.like zs (ys ++ v :: r) ∧ localsGo s l k xs (.ok i) = (zs, .ok (i + ((v :: r).flatMap lineI).length)) := by
  intro r
  induction r with
  | nil =>
    intro v k xs ys i post hf hxs hx8 hk hH
    obtain ⟨k, rfl⟩ : ∃ x, k = x + 1 := ⟨k - 1, by simp at hk; omega⟩
    have he : [v].flatMap lineI = varI v ++ [itOf [59]] := by simp [lineI]
    rw [he] at hH ⊢
    rw [List.append_assoc] at hH
    have t1 := hH.right.head.2
    have t2 := hH.right.tail.head.2
    obtain ⟨v', hv, hg⟩ := group_back (s := s) (xs := xs) (most := 40) (hf v (List.mem_cons_self ..)) (by simp at hx8; omega) hH.left (by rw [is_of t1]; decide)
    refine ⟨xs ++ [v'], hxs.push hv, ?_⟩
    unfold localsGo
    rw [hg]
    dsimp only
    rw [md_want (t := wSemi) t1, if_pos (.inr (by rw [md_is t2]; decide))]
    congr 2
    simp only [List.length_append, List.length_cons, List.length_nil]
    omega
  | cons u r ih =>
    intro v k xs ys i post hf hxs hx8 hk hH
    obtain ⟨k, rfl⟩ : ∃ x, k = x + 1 := ⟨k - 1, by simp at hk; omega⟩
    have he : (v :: u :: r).flatMap lineI = varI v ++ (itOf [59] :: (u :: r).flatMap lineI) := by simp [lineI]
    rw [he, List.append_assoc] at hH
    have t1 := hH.right.head.2
    have hH2 := hH.right.tail
    have t2 : (tkN l (i + (varI v).length + 1)).it = itNm u.name := by
      have h3 : (u :: r).flatMap lineI ++ (itOf [108, 101, 116] :: post) = itNm u.name :: (((varI u).tail ++ [itOf [59]]) ++ (r.flatMap lineI ++ (itOf [108, 101, 116] :: post))) := by simp [lineI, varI]
      have hH3 : Here l (i + (varI v).length + 1) ((u :: r).flatMap lineI ++ (itOf [108, 101, 116] :: post)) := hH2
      rw [h3] at hH3
      exact hH3.head.2
    obtain ⟨v', hv, hg⟩ := group_back (s := s) (xs := xs) (most := 40) (hf v (List.mem_cons_self ..)) (by simp at hx8; omega) hH.left (by rw [is_of t1]; decide)
    obtain ⟨zs, hz, hr⟩ := ih u k (xs ++ [v']) (ys ++ [v]) _ post (fun x hx => hf x (List.mem_cons_of_mem _ hx)) (hxs.push hv) (by simp at hx8 ⊢; omega) (by simp at hk; omega) hH2
    refine ⟨zs, by simpa using hz, ?_⟩
    unfold localsGo
    rw [hg]
    dsimp only
    rw [md_want (t := wSemi) t1, if_neg (by rw [md_no t2]; simp [Md.isBad]), hr, he]
    congr 2
    simp only [List.length_append, List.length_cons]
    omega
theorem strs_back : ∀ (r : List ByteArray) (x : ByteArray) (k : Nat) (xs : List ByteArray) (i : Nat), xs.length + (r.length + 1) ≤ 8 → r.length + 1 ≤ k → Here l i (sepI [itOf [44]] (fun x => [itNm x]) (x :: r) ++ [itOf [41]]) → strsP s l k xs (.ok i) = (xs ++ x :: r, .ok (i + (sepI [itOf [44]] (fun x => [itNm x]) (x :: r)).length)) := by
  intro r
  induction r with
  | nil =>
    intro x k xs i hx8 hk hH
    obtain ⟨k, rfl⟩ : ∃ x, k = x + 1 := ⟨k - 1, by simp at hk; omega⟩
    have he : sepI [itOf [44]] (fun x => [itNm x]) [x] = [itNm x] := by simp [sepI]
    rw [he] at hH ⊢
    have t1 := hH.head.2
    have t2 := hH.tail.head.2
    have hd : decide (8 ≤ xs.length) = false := by simp at hx8 ⊢; omega
    unfold strsP
    rw [hd, md_name t1, if_neg (by rw [md_is t2]; decide), md_text t1]
    rfl
  | cons u r ih =>
    intro x k xs i hx8 hk hH
    obtain ⟨k, rfl⟩ : ∃ x, k = x + 1 := ⟨k - 1, by simp at hk; omega⟩
    have he : sepI [itOf [44]] (fun x => [itNm x]) (x :: u :: r) = itNm x :: itOf [44] :: sepI [itOf [44]] (fun x => [itNm x]) (u :: r) := by simp [sepI]
    rw [he] at hH ⊢
    have t1 := hH.head.2
    have t2 := hH.tail.head.2
    have hd : decide (8 ≤ xs.length) = false := by simp at hx8 ⊢; omega
    have hr := ih u k (xs ++ [x]) (i + 1 + 1) (by simp at hx8 ⊢; omega) (by simp at hk; omega) hH.tail.tail
    unfold strsP
    rw [hd, md_name t1, if_pos (by rw [md_is t2]; decide), md_text t1, md_take (t := wComma) t2, hr]
    simp only [List.append_assoc, List.cons_append, List.nil_append, List.length_cons]
    congr 2
    omega
theorem left_back {xs : List ByteArray} {n i : Nat} {post : List It} (h1 : 1 ≤ xs.length) (h8 : xs.length ≤ 8) (hn : n < 48) (hH : Here l i (leftI xs ++ post)) : leftP s l n (.ok i) = (xs, .ok (i + (leftI xs).length)) := by
  unfold leftI at hH ⊢
  by_cases hl : 1 < xs.length
  · rw [if_pos hl] at hH ⊢
    have hHL := hH.left
    have t1 := hHL.head.2
    cases xs with
    | nil => simp at h1
    | cons x r =>
      have hs := strs_back (s := s) r x 9 [] (i + 1) (by simp at h8 ⊢; omega) (by simp at h8; omega) hHL.tail
      have t2 := hHL.tail.right.head.2
      unfold leftP
      rw [if_pos (by rw [md_is t1]; decide), if_neg (by omega), md_want (t := wOpen) t1]
      dsimp only
      rw [hs]
      dsimp only
      rw [show namesI (x :: r) = sepI [itOf [44]] (fun x => [itNm x]) (x :: r) from rfl] at t2 ⊢
      rw [md_want (t := wShut) t2]
      simp only [List.nil_append, List.length_cons, List.length_append, List.length_nil]
      congr 2
      omega
  · rw [if_neg hl] at hH ⊢
    obtain ⟨x, rfl⟩ : ∃ x, xs = [x] := by
      cases xs with
      | nil => simp at h1
      | cons x r =>
        cases r with
        | nil => exact ⟨x, rfl⟩
        | cons y r => simp at hl
    have he : namesI [x] = [itNm x] := by simp [namesI, sepI]
    rw [he] at hH ⊢
    have t1 := hH.head.2
    have hd : decide (48 ≤ n) = false := by simp; omega
    unfold leftP
    rw [if_neg (by rw [md_no t1]; simp), hd, md_name t1, md_text t1]
    rfl
theorem ex_back {e : Ex} {i : Nat} {post : List It} (hf : e.fine) (hh : e.height ≤ 30) (hH : Here l i (e.its 0 ++ (itOf [59] :: post))) : ∃ e', e'.like e ∧ exP s l (.ok i) = (e', .ok (i + (e.its 0).length)) := by
  have t1 := hH.right.head.2
  obtain ⟨hA, hB, _⟩ := reads_E (s := s) (l := l) e hf
  obtain ⟨e', hlk, he⟩ := part_B hf hA hB (d := 64) (by omega) hh hH.left (Int.le_refl _) (by omega) (weak_end t1 (by decide) (by decide))
  refine ⟨e', hlk, ?_⟩
  unfold exP Md.seq
  dsimp only
  rw [he]
theorem eq_back {q : EqE} {n i : Nat} (hf : q.fine) (hn : n < 48) (hH : Here l i (eqI q)) : ∃ q', q'.like q ∧ eqP s l n (.ok i) = (q', .ok (i + (eqI q).length)) := by
  unfold eqI at hH ⊢
  have hL := left_back (s := s) (n := n) hf.2.1 hf.2.2.1 hn hH
  have t1 := hH.right.head.2
  obtain ⟨e', hlk, he⟩ := ex_back (s := s) (post := []) hf.2.2.2.1 hf.2.2.2.2 hH.right.tail
  have t2 := hH.right.tail.right.head.2
  refine ⟨⟨q.left, e', lnN s l i, clN s l i⟩, ⟨rfl, hlk⟩, ?_⟩
  unfold eqP
  dsimp only
  rw [hL]
  dsimp only
  rw [md_want (t := wEq) t1, he]
  dsimp only
  rw [md_want (t := wSemi) t2]
  simp only [List.length_append, List.length_cons, List.length_nil, Md.ln, Md.cl]
  congr 2
  omega
theorem eq_head {u : EqE} {i : Nat} {post : List It} (h1 : 1 ≤ u.left.length) (hH : Here l i (eqI u ++ post)) : isN l i wTel = false := by
  have hL := hH.left
  unfold eqI at hL
  have hL2 := hL.left
  unfold leftI at hL2
  by_cases hl : 1 < u.left.length
  · rw [if_pos hl] at hL2
    rw [is_of hL2.head.2]; decide
  · rw [if_neg hl] at hL2
    cases hx : u.left with
    | nil => rw [hx] at h1; simp at h1
    | cons x r =>
      rw [hx, show namesI (x :: r) = itNm x :: (r.flatMap fun y => [itOf [44]] ++ [itNm y]) from rfl] at hL2
      exact name_is hL2.head.2 _
theorem eqsGo_back : ∀ (r : List EqE) (q : EqE) (k : Nat) (xs ys : List EqE) (i : Nat), (∀ x ∈ q :: r, x.fine) → AllLike EqE.like xs ys → xs.length + (r.length + 1) ≤ 48 → r.length + 1 ≤ k → Here l i ((q :: r).flatMap eqI ++ [itOf [116, 101, 108]]) →
    ∃ zs, AllLike EqE.like zs (ys ++ q :: r) ∧ eqsGo s l k xs (.ok i) = (zs, .ok (i + ((q :: r).flatMap eqI).length + 1)) := by
  intro r
  induction r with
  | nil =>
    intro q k xs ys i hf hxs hx8 hk hH
    obtain ⟨k, rfl⟩ : ∃ x, k = x + 1 := ⟨k - 1, by simp at hk; omega⟩
    have he : [q].flatMap eqI = eqI q := by simp
    rw [he] at hH ⊢
    have t1 := hH.right.head.2
    obtain ⟨q', hq, hg⟩ := eq_back (s := s) (n := xs.length) (hf q (List.mem_cons_self ..)) (by simp at hx8; omega) hH.left
    refine ⟨xs ++ [q'], hxs.push hq, ?_⟩
    unfold eqsGo
    rw [hg]
    dsimp only
    rw [if_pos (.inr (by rw [md_is t1]; decide)), md_take (t := wTel) t1]
  | cons u r ih =>
    intro q k xs ys i hf hxs hx8 hk hH
    obtain ⟨k, rfl⟩ : ∃ x, k = x + 1 := ⟨k - 1, by simp at hk; omega⟩
    have he : (q :: u :: r).flatMap eqI = eqI q ++ (u :: r).flatMap eqI := by simp
    rw [he, List.append_assoc] at hH
    obtain ⟨q', hq, hg⟩ := eq_back (s := s) (n := xs.length) (hf q (List.mem_cons_self ..)) (by simp at hx8; omega) hH.left
    have hH2 := hH.right
    have t1 : isN l (i + (eqI q).length) wTel = false := by
      refine eq_head (u := u) (post := r.flatMap eqI ++ [itOf [116, 101, 108]]) (hf u (by simp)).2.1 ?_
      rw [List.flatMap_cons, List.append_assoc] at hH2
      exact hH2
    obtain ⟨zs, hz, hr⟩ := ih u k (xs ++ [q']) (ys ++ [q]) _ (fun x hx => hf x (List.mem_cons_of_mem _ hx)) (hxs.push hq) (by simp at hx8 ⊢; omega) (by simp at hk; omega) hH2
    refine ⟨zs, by simpa using hz, ?_⟩
    unfold eqsGo
    rw [hg]
    dsimp only
    rw [if_neg (by show ¬ (false = true ∨ isN l _ wTel = true); rw [t1]; simp), hr, he]
    congr 2
    simp only [List.length_append]
    omega
theorem ports_post {vs : List VarE} {i : Nat} {post : List It} (hf : ∀ x ∈ vs, x.fine) (h18 : 1 ≤ vs.length ∧ vs.length ≤ 8) (hH : Here l i (itOf [40] :: (varsI vs ++ (itOf [41] :: post)))) : ∃ zs, AllLike VarE.like zs vs ∧ portsP s l (.ok i) = (zs, .ok (i + 1 + (varsI vs).length + 1)) ∧ Here l (i + 1 + (varsI vs).length + 1) post := by
  have hH1 : Here l i ((itOf [40] :: (varsI vs ++ [itOf [41]])) ++ post) := by simpa using hH
  obtain ⟨zs, hz, he⟩ := ports_back (s := s) hf h18.1 h18.2 hH1.left
  refine ⟨zs, hz, ?_, hH.tail.right.tail⟩
  rw [he]
  congr 2
  simp only [List.length_append, List.length_cons, List.length_nil]
  omega
theorem locals_back {vs : List VarE} {i : Nat} {post : List It} (hf : ∀ x ∈ vs, x.fine) (h40 : vs.length ≤ 40) (hH : Here l i ((if 0 < vs.length then [itOf [118, 97, 114]] else []) ++ (vs.flatMap lineI ++ (itOf [108, 101, 116] :: post)))) : ∃ zs j, AllLike VarE.like zs vs ∧ localsP s l (.ok i) = (zs, .ok j) ∧ j = i + ((if 0 < vs.length then [itOf [118, 97, 114]] else []) ++ vs.flatMap lineI).length ∧ Here l j (itOf [108, 101, 116] :: post) := by
  cases vs with
  | nil =>
    have hH1 : Here l i (itOf [108, 101, 116] :: post) := by simpa using hH
    refine ⟨[], i, AllLike.nil _, ?_, by simp, hH1⟩
    unfold localsP
    rw [if_neg (by rw [md_is hH1.head.2]; decide)]
  | cons v r =>
    rw [if_pos (by simp)] at hH ⊢
    have t1 := hH.head.2
    have hH1 : Here l (i + 1) ((v :: r).flatMap lineI ++ (itOf [108, 101, 116] :: post)) := hH.tail
    obtain ⟨zs, hz, he⟩ := localsGo_back (s := s) r v 41 [] [] (i + 1) post hf (AllLike.nil _) (by simp at h40 ⊢; omega) (by simp at h40; omega) hH1
    refine ⟨zs, _, by simpa using hz, ?_, ?_, hH1.right⟩
    · unfold localsP
      rw [if_pos (by rw [md_is t1]; decide), md_take (t := wVar) t1, he]
    · simp only [List.length_append, List.length_cons, List.length_nil]
      omega
theorem node_back {n : NodeE} {i : Nat} (hf : n.fine) (hH : Here l i (nodeI n)) : ∃ n', n'.like n ∧ nodeP s l (.ok i) = (n', .ok (i + (nodeI n).length)) := by
  obtain ⟨_, hi, ho, hv, hq, hi8, ho8, hv8, hq1, hq8⟩ := hf
  unfold nodeI at hH
  have t1 := hH.head.2
  have t2 := hH.tail.head.2
  obtain ⟨a1, ha, hA, hH2⟩ := ports_post (s := s) hi hi8 hH.tail.tail
  have t3 := hH2.head.2
  obtain ⟨bs, hb, hB, hH3⟩ := ports_post (s := s) ho ho8 hH2.tail
  have t4 := hH3.head.2
  obtain ⟨cs, j, hc, hC, hj, hH4⟩ := locals_back (s := s) hv hv8 hH3.tail
  have t5 := hH4.head.2
  obtain ⟨q, r, hqr⟩ : ∃ q r, n.eqs = q :: r := by
    cases hx : n.eqs with
    | nil => rw [hx] at hq1; simp at hq1
    | cons q r => exact ⟨q, r, rfl⟩
  rw [hqr] at hq hq8
  have hH5 := hH4.tail
  rw [hqr] at hH5
  obtain ⟨ds, hd, hD⟩ := eqsGo_back (s := s) r q 49 [] [] (j + 1) hq (AllLike.nil _) (by simp at hq8 ⊢; omega) (by simp at hq8; omega) hH5
  refine ⟨⟨n.name, a1, bs, cs, ds, lnN s l (i + 1), clN s l (i + 1)⟩, ⟨rfl, ha, hb, hc, by rw [hqr]; simpa using hd⟩, ?_⟩
  unfold nodeP
  dsimp only
  rw [md_want (t := wNode) t1, md_name t2, hA]
  dsimp only
  rw [md_want (t := wRet) t3, hB]
  dsimp only
  rw [md_want (t := wSemi) t4, hC]
  dsimp only
  rw [md_want (t := wLet) t5, hD, md_text t2]
  have hlen : j + 1 + ((q :: r).flatMap eqI).length + 1 = i + (nodeI n).length := by
    rw [hj, ← hqr]
    unfold nodeI
    simp only [List.length_append, List.length_cons, List.length_nil]
    omega
  rw [hlen]
  rfl
theorem srcGo_back : ∀ (r : List NodeE) (n : NodeE) (k : Nat) (xs ys : List NodeE) (i : Nat), (∀ x ∈ n :: r, x.fine) → AllLike NodeE.like xs ys → xs.length + (r.length + 1) ≤ 16 → r.length + 1 ≤ k → Here l i ((n :: r).flatMap nodeI ++ [itEnd]) →
    ∃ zs j, AllLike NodeE.like zs (ys ++ n :: r) ∧ srcGo s l k xs (.ok i) = (zs, .ok j) := by
  intro r
  induction r with
  | nil =>
    intro n k xs ys i hf hxs hx8 hk hH
    obtain ⟨k, rfl⟩ : ∃ x, k = x + 1 := ⟨k - 1, by simp at hk; omega⟩
    have he : [n].flatMap nodeI = nodeI n := by simp
    rw [he] at hH
    have t1 : (tkN l (i + (nodeI n).length)).kind = 5 := congrArg It.kind hH.right.head.2
    obtain ⟨n', hn, hg⟩ := node_back (s := s) (hf n (List.mem_cons_self ..)) hH.left
    refine ⟨xs ++ [n'], i + (nodeI n).length, hxs.push hn, ?_⟩
    have hif : (if xs.length = 16 ∧ (Md.ok i).is l wNode = true then (Md.ok i).err s l 3 else Md.ok i) = .ok i := if_neg (by rintro ⟨h, _⟩; simp at hx8; omega)
    unfold srcGo
    dsimp only
    rw [hif, hg]
    dsimp only
    rw [if_pos (.inr (by unfold Md.last; dsimp only; rw [t1]; rfl))]
  | cons u r ih =>
    intro n k xs ys i hf hxs hx8 hk hH
    obtain ⟨k, rfl⟩ : ∃ x, k = x + 1 := ⟨k - 1, by simp at hk; omega⟩
    have he : (n :: u :: r).flatMap nodeI = nodeI n ++ (u :: r).flatMap nodeI := by simp
    rw [he, List.append_assoc] at hH
    obtain ⟨n', hn, hg⟩ := node_back (s := s) (hf n (List.mem_cons_self ..)) hH.left
    have hH2 := hH.right
    have t1 : ((tkN l (i + (nodeI n).length)).kind == 5) = false := by
      have h3 := hH2
      rw [List.flatMap_cons, List.append_assoc] at h3
      have h4 := h3.left
      unfold nodeI at h4
      have h5 : (tkN l (i + (nodeI n).length)).kind = (itOf [110, 111, 100, 101]).kind := congrArg It.kind h4.head.2
      rw [h5]; decide
    obtain ⟨zs, j, hz, hr⟩ := ih u k (xs ++ [n']) (ys ++ [n]) _ (fun x hx => hf x (List.mem_cons_of_mem _ hx)) (hxs.push hn) (by simp at hx8 ⊢; omega) (by simp at hk; omega) hH2
    refine ⟨zs, j, by simpa using hz, ?_⟩
    have hif : (if xs.length = 16 ∧ (Md.ok i).is l wNode = true then (Md.ok i).err s l 3 else Md.ok i) = .ok i := if_neg (by rintro ⟨h, _⟩; simp at hx8; omega)
    unfold srcGo
    dsimp only
    rw [hif, hg]
    dsimp only
    rw [if_neg (by show ¬ (false = true ∨ ((tkN l _).kind == 5) = true); rw [t1]; simp), hr]
end
/-- THE LAW: a source's text is read as it was, but for places -/
theorem source_back {s : ByteArray} {xs : List NodeE} (hf : ∀ n ∈ xs, n.fine) (h1 : 1 ≤ xs.length) (h16 : xs.length ≤ 16) (hs : s.data.toList = srcTxt xs) {l : List Tk} (hsc : scanOf s = .toks l) : ∃ zs j, AllLike NodeE.like zs xs ∧ sourceOf s = (zs, .ok j) := by
  have hlex := lex_scan hsc
  obtain ⟨js, hj, hl⟩ := lex_src hf [] [] _ nil_blank (by rw [hs] at hlex; simpa using hlex)
  have hjs := lex_end (w := []) nil_blank hl
  rw [hjs] at hj
  have hH : Here l 0 (srcI xs ++ [itEnd]) := fun j hj2 => by
    have hlen : l.length = (srcI xs ++ [itEnd]).length := by rw [← hj, List.length_map]
    refine ⟨by omega, ?_⟩
    have h2 : some (tkN l (0 + j)).it = (srcI xs ++ [itEnd])[j]? := by
      rw [← hj, List.getElem?_map]
      unfold tkN
      rw [Nat.zero_add, List.getElem?_eq_getElem (by omega)]
      rfl
    rw [List.getElem?_eq_getElem hj2] at h2
    injection h2
  cases xs with
  | nil => simp at h1
  | cons n r =>
    obtain ⟨zs, j, hz, hr⟩ := srcGo_back (s := s) r n 17 [] [] 0 hf (AllLike.nil _) (by simp at h16 ⊢; omega) (by simp at h16; omega) hH
    refine ⟨zs, j, by simpa using hz, ?_⟩
    unfold sourceOf
    rw [hsc]
    exact hr
end Go.Proofs.YtnlikhjmmnaknaaGreatDoor
