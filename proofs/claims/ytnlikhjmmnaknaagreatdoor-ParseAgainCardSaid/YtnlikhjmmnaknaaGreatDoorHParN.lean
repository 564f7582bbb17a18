/-
  The parser's expr, at every level; where a text's tokens begin.
-/
import Derived.Test.YtnlikhjmmnaknaaGreatDoorHParL
import Derived.Test.YtnlikhjmmnaknaaGreatDoorGP
namespace Go.Proofs.YtnlikhjmmnaknaaGreatDoor
open Go.RowKit

theorem Got.up {s : ByteArray} {l : List Tk} {P g : Nat} {w w' : World} {q q' : PR} {top top' : Int} {e : Ex} {A : Option Addr} {c : Nat} {h : Int} {m' : Md} (G : Got s l P g w q top w' e A c h m') (hq : q = q') (ht : top ≤ top') : Got s l P g w q' top' w' e A c h m' := by
  subst hq
  exact ⟨G.inn, G.st, G.grown, G.low, Int.le_trans G.top ht, G.ok, G.came⟩
theorem expr_any {s : ByteArray} {l : List Tk} {P g : Nat} (hE : Ended l) (hK : TkOk s l) : ∀ d : Nat, d ≤ 65 → ∀ least : Int, 0 ≤ least → least ≤ 9 →
    Gives s l P g 37 #[.pointer (some ⟨P, 0, none⟩), .int .i64 least, .int .i64 (65 - (d : Int))] (exprN s l d least) (30 + (d : Int)) := by
  intro d
  induction d with
  | zero =>
    intro _ least h0 h9 m w h
    cases m with
    | ok k =>
      refine (expr_deep_ok (top := 30) (by omega) (by omega) h).mono ?_
      rintro r w1 ⟨e, A, c, t, m', hr, G⟩
      exact ⟨e, A, c, t, m', hr, G.up rfl (by omega)⟩
    | bad ea eb ec =>
      refine (expr_deep_bad (top := 30) (by omega) (by omega) h).mono ?_
      rintro r w1 ⟨e, A, c, t, m', hr, G⟩
      exact ⟨e, A, c, t, m', hr, G.up rfl (by omega)⟩
  | succ d ih =>
    intro hd least h0 h9 m w h
    have hL : IntKind.i64.wrap ((65 - ((d + 1 : Nat) : Int)) + 1) = 65 - (d : Int) := by
      rw [show (65 - ((d + 1 : Nat) : Int)) + 1 = 65 - (d : Int) by omega]
      exact IntWalk.i64_in _ (by omega)
    have hr := ih (by omega)
    have ht : (30 : Int) ≤ 30 + (d : Int) ∧ 30 + (d : Int) ≤ 199 := by omega
    cases m with
    | bad ea eb ec =>
      refine (expr_bad (top := 30) (by omega) (by omega) h).mono ?_
      rintro r w1 ⟨e, A, c, t, m', hr, G⟩
      exact ⟨e, A, c, t, m', hr, G.up rfl (by omega)⟩
    | ok k =>
      have hq : exprN s l (d + 1) least k = oneN s l (exprN s l d) least k := if_pos ⟨PSt.lt h, h0, h9⟩
      by_cases hi : least = 0 ∧ isN l k wIf = true
      · have h1 : oneN s l (exprN s l d) least k = choiceN s l (exprN s l d) k := if_pos hi
        obtain ⟨rfl, hi⟩ := hi
        refine (expr_if (by omega) (fun k w h => choice_any hE hK hL ht (hr 0 (by omega) (by omega)) k w h) h hi).mono ?_
        rintro r w1 ⟨e, A, c, t, m', hr, G⟩
        exact ⟨e, A, c, t, m', hr, G.up (hq.trans h1).symm (by omega)⟩
      · have h1 : oneN s l (exprN s l d) least k = (prefN s l (exprN s l d) k).then fun e i1 => loopN s l (exprN s l d) least l.length e (sigN l k) i1 := if_neg hi
        refine (expr_loop hE hK (by omega) hL (expr_adv hE d) ht hr (fun k w h => prefix_any hE hK hL ht hr k w h) h hi rfl).mono ?_
        rintro r w1 ⟨e, A, c, t, m', hr, G⟩
        exact ⟨e, A, c, t, m', hr, G.up (hq.trans h1).symm (by omega)⟩

/-- what scanning gives, as the parser wants it -/
theorem scan_facts {s : ByteArray} {l : List Tk} (h : scanOf s = .toks l) : Ended l ∧ TkOk s l ∧ 0 < l.length ∧ l.length ≤ 4097 := by
  obtain ⟨h1, h2, h3⟩ := scan_toks h
  obtain ⟨h4, h5⟩ := toks_ends h1
  have h6 := toks_hold h3 h1
  have hget : ∀ i (hi : i < l.length), tkN l i = l[i] := fun i hi => by unfold tkN; rw [List.getElem?_eq_getElem hi]; rfl
  refine ⟨fun i hi hk => h5 i hi (by rw [← hget i hi]; exact hk), fun i => ?_, h4, h2⟩
  have hp : (tkN l i).pos ≤ s.size ∧ (tkN l i).text.size ≤ 16384 ∧ -9223372036854775808 ≤ (tkN l i).num ∧ (tkN l i).num ≤ 9223372036854775807 := by
    by_cases hi : i < l.length
    · rw [hget i hi]; exact h6 _ (List.getElem_mem hi)
    · have : tkN l i = ⟨5, ⟨#[]⟩, 0, 0⟩ := by unfold tkN; rw [List.getElem?_eq_none (by omega)]; rfl
      rw [this]
      exact ⟨Nat.zero_le _, Nat.zero_le _, by show _ ≤ (0 : Int); omega, by show (0 : Int) ≤ _; omega⟩
  have hb := place_bd s (tkN l i).pos
  refine ⟨?_, ?_, by unfold maxLen; omega, ?_⟩
  · unfold I64 lnN; omega
  · unfold I64 clN; omega
  · unfold I64; omega

set_option maxHeartbeats 1000000 in
set_option maxRecDepth 100000 in
theorem end_ok {s : ByteArray} {l : List Tk} {P g : Nat} {w : World} {i : Nat} (h : Sm s l P g w (.ok i)) :
    Calls Tryz.prog 38 #[.pointer (some ⟨P, 0, none⟩)] w fun r w' => r = .returned (.tuple #[]) ∧ Sm s l P g w' (if (tkN l i).kind = 5 then .ok i else .bad 21 (lnN s l i) (clN s l i)) ∧ w.grownBy w' (some P) := by
  by_cases hk : (tkN l i).kind = 5
  · have hki : ((tkN l i).kind != 5) = false := by simp [hk]
    rw [if_pos hk]
    clear hk
    go_enter Tryz.func38, Tryz.ntmps38
    go_wp2_with fail
    refine (now_m h).mono ?_
    rintro r w1 ⟨i2, hlt, hj, rfl, hb⟩
    obtain rfl : i2 = i := hj i rfl
    have hfd := field_kind (tkN l i2).kind (tkN l i2).text (tkN l i2).num (lnN s l i2) (clN s l i2)
    go_wp2_with fail
    go_end0
    exact ⟨rfl, h.below hb, grown_below hb _⟩
  · have hki : ((tkN l i).kind != 5) = true := by simp [hk]
    rw [if_neg hk]
    clear hk
    go_enter Tryz.func38, Tryz.ntmps38
    go_wp2_with fail
    refine (now_m h).mono ?_
    rintro r w1 ⟨i2, hlt, hj, rfl, hb⟩
    obtain rfl : i2 = i := hj i rfl
    have hfd := field_kind (tkN l i2).kind (tkN l i2).text (tkN l i2).num (lnN s l i2) (clN s l i2)
    have h1 := h.below hb
    go_wp2_with fail
    refine (now_m h1).mono ?_
    rintro r w2 ⟨i3, hlt3, hj3, rfl, hb2⟩
    obtain rfl : i3 = i2 := hj3 i2 rfl
    have h2 := h1.below hb2
    clear hfd
    have hfd := field_at (.int .i64 (tkN l i3).kind) (.string (tkN l i3).text) (.int .i64 (tkN l i3).num) (lnN s l i3) (clN s l i3)
    go_wp2_with fail
    refine (fail_m h2 (e := 21) (by decide) _ _).mono ?_
    rintro r w3 ⟨rfl, h3, hg3⟩
    go_wp2_with fail
    go_end0
    exact ⟨rfl, h3, grown_trans (grown_below hb _) (grown_trans (grown_below hb2 _) hg3)⟩
set_option maxHeartbeats 1000000 in
set_option maxRecDepth 100000 in
theorem end_bad {s : ByteArray} {l : List Tk} {P g : Nat} {w : World} {ea eb ec : Int} (h : Sm s l P g w (.bad ea eb ec)) :
    Calls Tryz.prog 38 #[.pointer (some ⟨P, 0, none⟩)] w fun r w' => r = .returned (.tuple #[]) ∧ Sm s l P g w' (.bad ea eb ec) ∧ w.grownBy w' (some P) := by
  go_enter Tryz.func38, Tryz.ntmps38
  go_wp2_with fail
  refine (now_m h).mono ?_
  rintro r w1 ⟨i2, hlt, -, rfl, hb⟩
  have hfd := field_kind (tkN l i2).kind (tkN l i2).text (tkN l i2).num (lnN s l i2) (clN s l i2)
  have h1 := h.below hb
  by_cases hk : (tkN l i2).kind = 5
  · have hki : ((tkN l i2).kind != 5) = false := by simp [hk]
    clear hk
    go_wp2_with fail
    go_end0
    exact ⟨rfl, h1, grown_below hb _⟩
  · have hki : ((tkN l i2).kind != 5) = true := by simp [hk]
    clear hk
    go_wp2_with fail
    refine (now_m h1).mono ?_
    rintro r w2 ⟨i3, hlt3, -, rfl, hb2⟩
    have h2 := h1.below hb2
    clear hfd
    have hfd := field_at (.int .i64 (tkN l i3).kind) (.string (tkN l i3).text) (.int .i64 (tkN l i3).num) (lnN s l i3) (clN s l i3)
    go_wp2_with fail
    refine (fail_m h2 (e := 21) (by decide) _ _).mono ?_
    rintro r w3 ⟨rfl, h3, hg3⟩
    go_wp2_with fail
    go_end0
    exact ⟨rfl, h3, grown_trans (grown_below hb _) (grown_trans (grown_below hb2 _) hg3)⟩
/-- the end of a text has to come -/
def Md.ends (s : ByteArray) (l : List Tk) (m : Md) : Md := match m with
  | .ok i => if (tkN l i).kind = 5 then .ok i else .bad 21 (lnN s l i) (clN s l i)
  | .bad a b c => .bad a b c
theorem end_m {s : ByteArray} {l : List Tk} {P g : Nat} {w : World} {m : Md} (h : Sm s l P g w m) :
    Calls Tryz.prog 38 #[.pointer (some ⟨P, 0, none⟩)] w fun r w' => r = .returned (.tuple #[]) ∧ Sm s l P g w' (m.ends s l) ∧ w.grownBy w' (some P) := by
  cases m with
  | ok i => exact end_ok h
  | bad a b c => exact end_bad h
end Go.Proofs.YtnlikhjmmnaknaaGreatDoor
