/-
  The walks of show.Expr and of the reference's Fits.
-/
import Derived.Test.YtnlikhjmmnaknaaDoorShowC
import Derived.Test.YtnlikhjmmnaknaaDoorRScan
namespace Go.Proofs.YtnlikhjmmnaknaaDoor
open Go.RowKit

/-- has a text not too many tokens, and are they right? -/
def fitsT (t : List UInt8) : Bool := match scanOf ⟨t.toArray⟩ with | .toks _ => true | .bad _ _ => false
theorem scanGo_bad {s : ByteArray} {e : Int} {p : Nat} : ∀ (f n i : Nat) (l : List Tk), scanGo s f n i l = .bad e p → e = 3 ∨ e = 20 := by
  intro f
  induction f with
  | zero => intro n i l h; unfold scanGo at h; cases h
  | succ f ih =>
    intro n i l h
    unfold scanGo at h
    split at h
    · cases h
    · split at h
      · injection h with h1 _; exact .inl h1.symm
      · split at h
        · exact ih _ _ _ h
        · injection h with h1 _; exact .inr h1.symm
theorem scan_bad {s : ByteArray} {e : Int} {p : Nat} (h : scanOf s = .bad e p) : e = 3 ∨ e = 20 := by
  unfold scanOf at h
  split at h
  · injection h with h1 _; exact .inl h1.symm
  · exact scanGo_bad _ _ _ _ h

theorem bare_ne : ∀ e : Ex, e.ok → e.bare ≠ [] := by
  intro e h
  obtain _ | ⟨op, name, n, k, arg, ln, cl⟩ := e
  · exact h.elim
  · have hF := plain_facts h.1
    rw [bare_mk]
    unfold bareOf
    by_cases c1 : op = 1
    · rw [if_pos c1]
      obtain ⟨u, rfl⟩ := Int.eq_ofNat_of_zero_le (hF.n1 c1)
      rw [Lib.itoa_nonneg]
      intro h0
      have : (Lib.decDigits u).length = 0 := by rw [h0]; rfl
      rw [Lib.decDigits] at this
      split at this <;> simp at this
    rw [if_neg c1]
    by_cases c2 : op = 2
    · rw [if_pos c2]; split <;> simp
    rw [if_neg c2]
    by_cases c3 : op = 3
    · rw [if_pos c3]
      have := (name_len (hF.named (.inl c3))).1
      intro h0
      rw [h0] at this
      simp at this
    rw [if_neg c3]
    (repeat' split) <;> simp
theorem txt_ne {e : Ex} (h : e.ok) (least : Int) : e.txt least ≠ [] := by
  unfold Ex.txt wrapT
  split
  · simp
  · exact bare_ne e h

set_option maxHeartbeats 2000000 in
theorem done_any (B b : Nat) (t : List UInt8) (w : World) (hW : Wr B b t w) (ht : t ≠ []) (hlen : t.length ≤ 140737488355328) :
    Calls Tryd.prog 20 #[.pointer (some ⟨b, 0, none⟩)] w fun r w' => r = .returned (.tuple #[.string (if fitsT t = true then ⟨t.toArray⟩ else ⟨#[]⟩), .int .i64 (if fitsT t = true then 0 else 3)]) ∧ Below B w w' := by
  have hs : (⟨t.toArray⟩ : ByteArray).size ≤ maxLen := by
    show t.toArray.size ≤ maxLen
    unfold maxLen
    simp; omega
  cases hsc : scanOf ⟨t.toArray⟩ with
  | toks l =>
    have hf : fitsT t = true := by unfold fitsT; rw [hsc]
    rw [hf]
    have HSC := hid hsc
    clear hsc
    simp only [reduceIte]
    go_enter Tryd.func20, Tryd.ntmps20
    go_wp2_with fail
    refine (wrote_any B b t w hW ht).mono ?_
    rintro r w1 ⟨rfl, hb1⟩
    go_wp2_with fail
    refine (scan_any ⟨t.toArray⟩ w1 hs).mono ?_
    rintro r w2 ⟨hb2, hr2⟩
    rw [HSC.out] at hr2
    obtain ⟨g, c, rfl, hown2⟩ := hr2
    have hlt := hW.lt
    have hle := hW.le
    have hz := hb1.size
    have hb3 := hb1.trans (hb2.mono (by omega))
    have hz3 := hb3.size
    go_wp2_with fail
    go_ret2
    exact ⟨rfl, hb3.alloc (by omega) _⟩
  | bad e p =>
    have hf : fitsT t = false := by unfold fitsT; rw [hsc]
    have he : (e != 0) = true := by rcases scan_bad hsc with h | h <;> subst h <;> rfl
    rw [hf]
    have HSC := hid hsc
    clear hsc
    simp only [Bool.false_eq_true, reduceIte]
    go_enter Tryd.func20, Tryd.ntmps20
    go_wp2_with fail
    refine (wrote_any B b t w hW ht).mono ?_
    rintro r w1 ⟨rfl, hb1⟩
    go_wp2_with fail
    refine (scan_any ⟨t.toArray⟩ w1 hs).mono ?_
    rintro r w2 ⟨hb2, hr2⟩
    rw [HSC.out] at hr2
    obtain rfl := hr2
    have hlt := hW.lt
    have hle := hW.le
    have hz := hb1.size
    have hb3 := hb1.trans (hb2.mono (by omega))
    have hz3 := hb3.size
    go_wp2_with fail
    go_ret2
    exact ⟨rfl, hb3.alloc (by omega) _⟩

set_option maxHeartbeats 2000000 in
theorem rfits_any (t : List UInt8) (w : World) (hlen : t.length ≤ 140737488355328) :
    Calls Tryd.prog 13 #[.string ⟨t.toArray⟩] w fun r w' => r = .returned (.bool (fitsT t)) ∧ Below w.heap.size w w' := by
  have hs : (⟨t.toArray⟩ : ByteArray).size ≤ maxLen := by
    show t.toArray.size ≤ maxLen
    unfold maxLen
    simp; omega
  cases hsc : scanOf ⟨t.toArray⟩ with
  | toks l =>
    have hf : fitsT t = true := by unfold fitsT; rw [hsc]
    rw [hf]
    have HSC := hid hsc
    clear hsc
    go_enter Tryd.func13, Tryd.ntmps13
    go_wp2_with fail
    refine (rscan_any ⟨t.toArray⟩ w hs).mono ?_
    rintro r w2 ⟨hb2, hr2⟩
    rw [HSC.out] at hr2
    obtain ⟨g, c, rfl, hown2⟩ := hr2
    go_wp2_with fail
    go_ret
    exact ⟨rfl, hb2.alloc hb2.size _⟩
  | bad e p =>
    have hf : fitsT t = false := by unfold fitsT; rw [hsc]
    have he : (e == 0) = false := by rcases scan_bad hsc with h | h <;> subst h <;> rfl
    rw [hf]
    have HSC := hid hsc
    clear hsc
    go_enter Tryd.func13, Tryd.ntmps13
    go_wp2_with fail
    refine (rscan_any ⟨t.toArray⟩ w hs).mono ?_
    rintro r w2 ⟨hb2, hr2⟩
    rw [HSC.out] at hr2
    obtain rfl := hr2
    go_wp2_with fail
    go_ret
    exact ⟨rfl, hb2.alloc hb2.size _⟩

/-- what show.Expr says: a text, an error -/
def shown (e : Ex) : ByteArray × Int := if e.right = true then (if fitsT (e.txt 0) = true then (⟨(e.txt 0).toArray⟩, 0) else (⟨#[]⟩, 3)) else (⟨#[]⟩, 2)

set_option maxHeartbeats 2000000 in
theorem showExpr_any (e : Ex) (B : Nat) (A : Option Addr) (cap : Nat) (w : World) (hE : ExAt B w e A cap) (hB : B ≤ w.heap.size) (hT : Tab w) (hh : e.height ≤ 1000000) (hlen : e.right = true → (e.txt 0).length ≤ 140737488355328) :
    Calls Tryd.prog 8 #[e.val A cap] w fun r w' => r = .returned (.tuple #[.string (shown e).1, .int .i64 (shown e).2]) ∧ Below w.heap.size w w' := by
  have hE' := ExAt.more hB e A cap hE
  have hG := hT.lt
  have hX0 : ExBox (w.alloc (.cells #[.int .i64 e.op, .string e.name, .int .i64 e.num, .slice A e.k cap, .int .i64 e.line, .int .i64 e.col] 26)) w.heap.size e A cap := World.alloc_heap_new w _
  have hb0 : Below w.heap.size w (w.alloc (.cells #[.int .i64 e.op, .string e.name, .int .i64 e.num, .slice A e.k cap, .int .i64 e.line, .int .i64 e.col] 26)) := (Below.refl _ _).alloc (Nat.le_refl _) _
  have hz0 : w.heap.size < (w.alloc (.cells #[.int .i64 e.op, .string e.name, .int .i64 e.num, .slice A e.k cap, .int .i64 e.line, .int .i64 e.col] 26)).heap.size := by simp
  have hr := right_any e w.heap.size A cap (w.alloc (.cells #[.int .i64 e.op, .string e.name, .int .i64 e.num, .slice A e.k cap, .int .i64 e.line, .int .i64 e.col] 26)) (hE'.below (Nat.le_refl _) hb0) hb0.size hh
  have HR := hid hr
  clear hr
  cases hri : e.right with
  | false =>
    have HS : Hid (shown e = (⟨#[]⟩, 2)) := by show _ = _; unfold shown; rw [hri]; rfl
    unfold Ex.val at HR ⊢
    rw [HS.out]
    rw [hri] at HR
    clear hlen
    go_enter Tryd.func8, Tryd.ntmps8
    go_wp2_with fail
    refine HR.out.mono ?_
    rintro r w1 ⟨rfl, hb1⟩
    go_wp2_with fail
    go_ret2
    exact ⟨rfl, hb0.trans (hb1.mono (by omega))⟩
  | true =>
    have hok := ok_of_right hE hri
    have hlen' := hlen hri
    have HS : Hid (shown e = (if fitsT (e.txt 0) = true then ⟨(e.txt 0).toArray⟩ else ⟨#[]⟩, if fitsT (e.txt 0) = true then 0 else 3)) := by show _ = _; unfold shown; rw [hri]; simp only [reduceIte]; split <;> rfl
    unfold Ex.val at HR ⊢
    rw [HS.out]
    rw [hri] at HR
    clear hlen
    go_enter Tryd.func8, Tryd.ntmps8
    go_wp2_with fail
    refine HR.out.mono ?_
    rintro r w1 ⟨rfl, hb1⟩
    have hb1' := hb0.trans (hb1.mono (by omega))
    have hz1 := hb1.size
    have hX1 := hX0.below hb1
    have hlt1 : w.heap.size < w1.heap.size := by omega
    have hX2 := hX1.below ((Below.refl w1.heap.size w1).alloc (Nat.le_refl _) (.cells #[.pointer none, .slice none 0 0] 58))
    obtain ⟨c0, c1, c2, c3, c4, c5⟩ := hX1.cells
    obtain ⟨d0, d1, d2, d3, d4, d5⟩ := hX2.cells
    have hW2 : Wr w.heap.size w1.heap.size [] (w1.alloc (.cells #[.pointer none, .slice none 0 0] 58)) := .inl ⟨by omega, .slice none 0 0, World.alloc_heap_new w1 _, World.ownsRow_nil _ _ _ _, by simp [Value.ownBlock]⟩
    have hb2 := hb1'.alloc (by omega) (.cells #[.pointer none, .slice none 0 0] 58)
    go_wp2_with fail
    refine (expr_wr e hok w.heap.size w1.heap.size [] A cap 0 _ (hE'.below (Nat.le_refl _) hb2) hok hW2 (hT.below hb2 hG) hG (by simpa using hlen')).mono ?_
    rintro r w3 ⟨rfl, hW3, hK3⟩
    go_wp2_with fail
    rw [List.nil_append] at hW3
    refine (done_any w.heap.size w1.heap.size (e.txt 0) w3 hW3 (txt_ne hok 0) hlen').mono ?_
    rintro r w4 ⟨rfl, hb4⟩
    go_wp2_with fail
    all_goals
      go_ret2
      exact ⟨rfl, (hb2.trans hK3.below).trans hb4⟩
end Go.Proofs.YtnlikhjmmnaknaaDoor
