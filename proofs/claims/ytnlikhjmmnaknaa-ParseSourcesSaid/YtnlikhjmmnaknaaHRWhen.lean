/-
  Deep and conditions, in plain Lean; what a walk reads behind new blocks.
-/
import Derived.Test.YtnlikhjmmnaknaaHRPar5
namespace Go.Proofs.Ytnlikhjmmnaknaa
open Go.RowKit

theorem deep_seq {m : Md} {e : Ex} {f : Ex → Nat → PR} : (m.seq fun i => (madeN e i).then f) = (m.deep e).seq (f e) := by
  cases m with
  | bad a b c => rw [deep_bad]; rfl
  | ok i =>
    show (madeN e i).then f = _
    unfold madeN Md.deep
    by_cases h : 30 < e.height
    · rw [if_pos h, if_pos h]; rfl
    · rw [if_neg h, if_neg h]; rfl
theorem op_when {l : List Tk} {i : Nat} : opN l i = 24 ↔ isN l i wWhen = true := by
  unfold isN
  simp only [Bool.and_eq_true, Bool.or_eq_true, beq_iff_eq]
  constructor
  · intro h
    have hk := (op_range (l := l) (i := i) (by omega)).1
    refine ⟨hk, ?_⟩
    unfold opN at h
    rw [if_pos hk] at h
    unfold opText at h
    generalize (tkN l i).text.data.toList = t at *
    by_cases c : t = wWhen
    · exact c
    · exfalso
      simp only [if_neg c] at h
      (repeat' split at h) <;> omega
  · rintro ⟨h1, h2⟩
    unfold opN
    rw [if_pos h1, h2]
    rfl
theorem str_three {l : List Tk} {i : Nat} : strOf (opN l i) = 3 ↔ opN l i = 24 := by
  have h1 := opN_cases (l := l) i
  rw [strC_eq]
  unfold strC
  constructor
  · intro h2
    (repeat' split at h2) <;> omega
  · intro h2
    rw [h2]
    rfl
theorem many_stop {s : ByteArray} {l : List Tk} {rec : Int → Nat → PR} {f i : Nat} {e : Ex} (h : isN l i wWhen = false) : manyN s l rec 3 f e i = .ok e i := by
  cases f with
  | zero => rfl
  | succ f =>
    have h0 : opN l i ≠ 24 := fun h1 => by rw [op_when.1 h1] at h; cases h
    refine if_pos ?_
    by_cases hz : opN l i = 0
    · exact .inl hz
    · exact .inr (fun h3 => h0 (str_three.1 h3))
theorem many_when {s : ByteArray} {l : List Tk} {rec : Int → Nat → PR} {f i : Nat} {e : Ex} (hf : 0 < f) (h : isN l i wWhen = true) : manyN s l rec 3 f e i = whenN s l e i fun e1 i1 => manyN s l rec 3 (f - 1) e1 i1 := by
  obtain ⟨f, rfl⟩ : ∃ g, f = g + 1 := ⟨f - 1, by omega⟩
  have h24 := op_when.2 h
  show (if _ then _ else if _ then _ else _) = _
  rw [if_neg (by rw [h24]; decide), if_pos h24]
  rfl
theorem rtake_j {s : ByteArray} {l : List Tk} {P g : Nat} {w : World} (hE : Ended l) {i j : Nat} {b : Bool} (h : Sm s l P g w (.ok i)) (hb : b = isN l i wNot) (hj : j = (if b = true then i + 1 else i)) :
    Calls Try.prog 44 #[.pointer (some ⟨P, 0, none⟩), .string ⟨#[110, 111, 116]⟩] w fun r w' => r = .returned (.bool b) ∧ Sm s l P g w' (.ok j) ∧ w.grownBy w' (some P) := by
  refine (rtake_m hE h ⟨#[110, 111, 116]⟩).mono ?_
  rintro r w1 ⟨rfl, h1, h2⟩
  refine ⟨ret_bool hb.symm, ?_, h2⟩
  have hm : Md.take l (.ok i) (⟨#[110, 111, 116]⟩ : ByteArray).data.toList = .ok j := by
    rw [hj, hb]
    show (if isN l i wNot = true then Md.ok (i + 1) else Md.ok i) = _
    by_cases hn : isN l i wNot = true
    · rw [if_pos hn, if_pos hn]
    · rw [if_neg hn, if_neg hn]
  exact hm ▸ h1
/-- what a walk reads of the next token -/
structure RD (s : ByteArray) (l : List Tk) (P g i c : Nat) (w : World) : Prop where
  c0 : w.cell? ⟨P, 0, none⟩ = some (.slice (some ⟨g, 0, none⟩) l.length c)
  c1 : w.cell? ⟨P, 1, none⟩ = some (.int .i64 i)
  k3 : w.cell? ⟨g, i * 5 + 3, none⟩ = some (.int .i64 (lnN s l i))
  k4 : w.cell? ⟨g, i * 5 + 4, none⟩ = some (.int .i64 (clN s l i))
theorem RD.alloc {s : ByteArray} {l : List Tk} {P g i c : Nat} {w : World} (h : RD s l P g i c w) (o : Obj) : RD s l P g i c (w.alloc o) := by
  have hb : Below w.heap.size w (w.alloc o) := (Below.refl _ _).alloc (Nat.le_refl _) o
  have hk : ∀ {b k : Nat} {v : Value}, w.cell? ⟨b, k, none⟩ = some v → (w.alloc o).cell? ⟨b, k, none⟩ = some v := fun {b k v} h => (hb.cell (p := ⟨b, k, none⟩) (cell_lt h)).trans h
  exact ⟨hk h.c0, hk h.c1, hk h.k3, hk h.k4⟩
theorem Fr.rd {s : ByteArray} {l : List Tk} {P g : Nat} {w0 w : World} {m : Md} {ks : List Kp} (f : PF s l P g w0 m w ks) : ∃ i c, (i < l.length ∧ (∀ j, m = .ok j → i = j) ∧ (i : Int) < (l.length : Int) ∧ (l.length : Int) ≤ 1000000) ∧ RD s l P g i c w := by
  obtain ⟨i, c, h1, ⟨c0, c1, k0, k1, k2, k3, k4⟩, -⟩ := f.reads (.cells #[] 0)
  exact ⟨i, c, h1, ⟨c0, c1, k3, k4⟩⟩
/-- an expression that was made of one that was there, and of new blocks -/
theorem Fr.two {s : ByteArray} {l : List Tk} {P g : Nat} {w0 w w' : World} {m m' : Md} {ks : List Kp} {D : Nat → Prop} {e e2 : Ex} {A A2 : Option Addr} {c c2 : Nat} (f : PF s l P g w0 m w (exK D e A c :: ks)) (hs : Sm s l P g w' m') (hg : w.grownBy w' (some P)) (hx : ExIn (Both w w' D) w' e2 A2 c2) : PF s l P g w0 m' w' (exK (Both w w' D) e2 A2 c2 :: ks) := by
  have h := f.tail.turn hs hg
  refine ⟨h.st, h.ss, h.gr, h.lt, fun y hy => ?_, List.pairwise_cons.2 ⟨fun y hy n hn => ?_, h.ap⟩⟩
  · rcases List.mem_cons.1 hy with rfl | hy
    · exact ⟨fun n hn => hn.elim (f.head.lo n) (fun hn => Nat.le_trans f.gr.size hn.1), fun n hn => hn.elim (fun hn => Nat.lt_of_lt_of_le (f.head.hi n hn) hg.size) (fun hn => hn.2), hx, exK_ok _ _ _ _⟩
    · exact h.k y hy
  · refine hn.elim (fun hn => (List.pairwise_cons.1 f.ap).1 y hy n hn) (fun hn hm => ?_)
    have := (f.tail.k y hy).hi n hm
    have := hn.1
    omega
theorem Fr.offP {s : ByteArray} {l : List Tk} {P g : Nat} {w0 w : World} {m : Md} {ks : List Kp} {k : Kp} (f : PF s l P g w0 m w (k :: ks)) : ¬ k.In P := fun h => by have := f.head.lo P h; have := f.lt P rfl; omega
theorem sg_op {l : List Tk} {st : Int} {i : Nat} (h : sgN l st i ≠ 0) : opN l i = sgN l st i ∧ opN l i ≠ 0 ∧ strOf (opN l i) = st := by
  unfold sgN at h ⊢
  by_cases hc : opN l i ≠ 0 ∧ strOf (opN l i) = st
  · rw [if_pos hc] at h ⊢; exact ⟨rfl, hc⟩
  · rw [if_neg hc] at h; exact absurd rfl h
theorem sg_none {l : List Tk} {st : Int} {i : Nat} (h : sgN l st i = 0) : opN l i = 0 ∨ strOf (opN l i) ≠ st := by
  unfold sgN at h
  by_cases hc : opN l i ≠ 0 ∧ strOf (opN l i) = st
  · rw [if_pos hc] at h; exact .inl h
  · by_cases h0 : opN l i = 0
    · exact .inl h0
    · exact .inr (fun h1 => hc ⟨h0, h1⟩)
theorem many_no {s : ByteArray} {l : List Tk} {rec : Int → Nat → PR} {st : Int} {f i : Nat} {e : Ex} (h : sgN l st i = 0) : manyN s l rec st f e i = .ok e i := by
  cases f with
  | zero => rfl
  | succ f => exact if_pos (sg_none h)
theorem many_two {s : ByteArray} {l : List Tk} {rec : Int → Nat → PR} {st : Int} {f i : Nat} {e : Ex} (hf : 0 < f) (h3 : st ≠ 3) (h : sgN l st i ≠ 0) : manyN s l rec st f e i = twoN s l rec e i (sgN l st i) (st + 1) fun e1 i1 => manyN s l rec st (f - 1) e1 i1 := by
  obtain ⟨f, rfl⟩ : ∃ g, f = g + 1 := ⟨f - 1, by omega⟩
  obtain ⟨h1, h2, h4⟩ := sg_op h
  have h24 : opN l i ≠ 24 := fun h5 => h3 (by rw [← h4, h5]; rfl)
  show (if _ then _ else if _ then _ else _) = _
  rw [if_neg (by rw [h4]; intro hh; rcases hh with hh | hh; exact h2 hh; exact hh rfl), if_neg h24, h1]
  rfl
theorem once_no {s : ByteArray} {l : List Tk} {rec : Int → Nat → PR} {st fr : Int} {i : Nat} {e : Ex} (h : sgN l st i = 0) : onceN s l rec st fr e i = .ok e i := if_pos (sg_none h)
theorem once_two {s : ByteArray} {l : List Tk} {rec : Int → Nat → PR} {st fr : Int} {i : Nat} {e : Ex} (h : sgN l st i ≠ 0) : onceN s l rec st fr e i = twoN s l rec e i (sgN l st i) fr .ok := by
  obtain ⟨h1, h2, h4⟩ := sg_op h
  unfold onceN
  rw [if_neg (by rw [h4]; intro hh; rcases hh with hh | hh; exact h2 hh; exact hh rfl), h1]
theorem two_came {s : ByteArray} {l : List Tk} {rec : Int → Nat → PR} {e mk : Ex} {j i1 : Nat} {op st t : Int} {m' : Md} {F : Ex → Nat → PR} (hi : j + 1 = i1) (hc : Came ((Md.ok i1).seq fun i => (rec st i).then fun r i1 => madeN (mkEx op ⟨#[]⟩ 0 [e, r] (lnN s l j) (clN s l j)) i1) m' mk t) : twoN s l rec e j op st F = m'.seq (F mk) := by
  rw [← came_then (f := F) hc]
  subst hi
  show _ = ((rec st (j + 1)).then _).then F
  rw [then_assoc]
  rfl
theorem sgn_ok {l : List Tk} {st v : Int} {m : Md} (hv : v = m.sgn l st) (h0 : v ≠ 0) : ∃ j, m = .ok j ∧ v = sgN l st j := by
  cases m with
  | ok j => exact ⟨j, rfl, hv⟩
  | bad a b c => exact absurd hv h0
theorem ok_came {e : Ex} {m : Md} : Came (m.seq (PR.ok e)) m e e.height := by
  cases m with
  | ok i => exact ⟨rfl, rfl, rfl⟩
  | bad a b c => exact rfl
theorem made_idx {q : PR} {F : Ex → Ex} {mk : Ex} {j : Nat} (h : (q.then fun r i => madeN (F r) i) = .ok mk j) : ∃ r, q = .ok r j := by
  cases q with
  | ok r i =>
    refine ⟨r, ?_⟩
    have h : madeN (F r) i = .ok mk j := h
    unfold madeN at h
    split at h
    · cases h
    · injection h with _ h; rw [h]
  | bad a b c => cases h
theorem two_on {s : ByteArray} {l : List Tk} {rec : Int → Nat → PR} (hA : Adv l rec) {e mk : Ex} {j i1 j3 : Nat} {op st t : Int} {m' : Md} (hlt : i1 < l.length) (hc : Came ((Md.ok i1).seq fun i => (rec st i).then fun r i1 => madeN (mkEx op ⟨#[]⟩ 0 [e, r] (lnN s l j) (clN s l j)) i1) m' mk t) (hm : m' = .ok j3) : i1 + 1 ≤ j3 := by
  subst hm
  obtain ⟨h1, -⟩ := came_ok hc
  obtain ⟨r, hr⟩ := made_idx (F := fun r => mkEx op ⟨#[]⟩ 0 [e, r] (lnN s l j) (clN s l j)) (q := rec st i1) h1
  exact (hA st i1 hlt r j3 hr).1
theorem seq_congr {m : Md} {f g : Nat → PR} (h : ∀ i, m = .ok i → f i = g i) : m.seq f = m.seq g := by
  cases m with
  | ok i => exact h i rfl
  | bad a b c => rfl
end Go.Proofs.Ytnlikhjmmnaknaa
