/-
  The walks of show's writer over an expression.
-/
import Derived.Test.YtnlikhjmmnaknaaDoorBuild
import Derived.Test.YtnlikhjmmnaknaaDoorShow1
import Derived.Test.YtnlikhjmmnaknaaDoorShelf
namespace Go.Proofs.YtnlikhjmmnaknaaDoor
open Go.RowKit

/-- the library's table is as it is laid -/
def Tab (w : World) : Prop := Lib.TabIs Tryd.prog w "internal/strconv.uint64pow10" .u64 Lib.pow10Tab
theorem tab_at : Tryd.prog.globalNamed "internal/strconv.uint64pow10" = some 1 := by kernel_rfl
def tabG : Nat := 1
theorem Tab.below {B : Nat} {w w' : World} (h : Tab w) (hb : Below B w w') (hB : tabG < B) : Tab w' := var?_below hb tab_at (by unfold tabG at hB; omega) h
theorem Tab.lt {w : World} (h : Tab w) : tabG < w.heap.size := by
  have hc := Lib.TabIs.cell h tab_at 0 (by decide)
  unfold World.cell? at hc
  split at hc
  · rename_i h1; exact (Array.getElem?_eq_some_iff.1 h1).1
  · cases hc

theorem below_grow (w : World) (k : Nat) (os : Array Obj) : Below w.heap.size w (Go.Sort.grow (w.drewN k) os) :=
  ⟨rfl, rfl, rfl, by simp [Go.Sort.grow, World.drewN], fun i hi => by
    show (w.heap ++ os)[i]? = w.heap[i]?
    rw [Array.getElem?_append_left hi]⟩

theorem itoa_any (n : Int) (w : World) (h : I64 n) (hT : Tab w) :
    Calls Tryd.prog 56 #[.int .i64 n] w fun e w' => e = .returned (.string ⟨(Lib.itoa n).toArray⟩) ∧ Below w.heap.size w w' := by
  refine (Tryd.strconv_Itoa n h.1 h.2 w hT).mono ?_
  rintro e w' ⟨rfl, k, os, rfl⟩
  exact ⟨rfl, below_grow w k os⟩

/-- what a call leaves that writes a text -/
def Writes (B b : Nat) (l t : List UInt8) (w : World) (r : Ending) (w' : World) : Prop := r = .returned (.tuple #[]) ∧ Wr B b (l ++ t) w' ∧ Wkeep B b w w'

theorem ExBox.wkeep {B b k : Nat} {w w' : World} {e : Ex} {A : Option Addr} {cap : Nat} (h : ExBox w k e A cap) (hk : Wkeep B b w w') (hkb : k ≠ b) : ExBox w' k e A cap := hk.other k _ _ _ hkb (by decide) h
theorem ExBox.below {k : Nat} {w w' : World} {e : Ex} {A : Option Addr} {cap : Nat} (h : ExBox w k e A cap) (hk : Below w.heap.size w w') : ExBox w' k e A cap := (hk.block k (heap_lt h)).trans h

theorem all_new (B b : Nat) (l : List UInt8) (ls : List ByteArray) (k n cap : Nat) (cs : Array Value) (W : World) (hW : Wr B b l W) (hk : k = W.heap.size) (hcs : cs = (ls.map Value.string).toArray) (hn : n = ls.length) (hlen : l.length + (joinB ls).length ≤ 140737488355328) (hls : ls.length ≤ 1000) :
    Calls Tryd.prog 29 #[.pointer (some ⟨b, 0, none⟩), .slice (some ⟨k, 0, none⟩) n cap] (W.alloc (.cells cs 9)) (Writes B b l (joinB ls) W) := by
  subst hcs hn hk
  have hlt := hW.lt
  have hle := hW.le
  have h0 : Wkeep B b W (W.alloc (.cells (ls.map Value.string).toArray 9)) := (Wkeep.refl _ _ _).alloc (by omega) _
  refine (all_wr B b l ls W.heap.size cap _ (hW.alloc _) (World.alloc_heap_new W _) (by omega) hlen (by omega) (by simp; omega)).mono ?_
  rintro r w' ⟨rfl, h1, h2⟩
  exact ⟨rfl, h1, h0.trans h2⟩

def ExprW (e : Ex) : Prop := ∀ (B b : Nat) (l : List UInt8) (A : Option Addr) (cap : Nat) (least : Int) (w : World), ExAt B w e A cap → e.ok → Wr B b l w → Tab w → tabG < B → l.length + (e.txt least).length ≤ 140737488355328 →
  Calls Tryd.prog 19 #[.pointer (some ⟨b, 0, none⟩), e.val A cap, .int .i64 least] w (Writes B b l (e.txt least) w)
def BareW (e : Ex) : Prop := ∀ (B b : Nat) (l : List UInt8) (A : Option Addr) (cap : Nat) (w : World), ExAt B w e A cap → e.ok → Wr B b l w → Tab w → tabG < B → l.length + e.bare.length ≤ 140737488355328 →
  Calls Tryd.prog 36 #[.pointer (some ⟨b, 0, none⟩), e.val A cap] w (Writes B b l e.bare w)

set_option maxHeartbeats 1000000 in
theorem expr_of_bare (e : Ex) (hB : BareW e) : ExprW e := by
  intro B b l A cap least w hE hok hW hT hB3 hlen
  have hlt := hW.lt
  have hle := hW.le
  have hbl := bare_len e A cap hE hok
  have hX0 : ExBox (w.alloc (.cells #[.int .i64 e.op, .string e.name, .int .i64 e.num, .slice A e.k cap, .int .i64 e.line, .int .i64 e.col] 26)) w.heap.size e A cap := World.alloc_heap_new w _
  have hK0 : Wkeep B b w (w.alloc (.cells #[.int .i64 e.op, .string e.name, .int .i64 e.num, .slice A e.k cap, .int .i64 e.line, .int .i64 e.col] 26)) := (Wkeep.refl _ _ _).alloc (by omega) _
  have hW0 := hW.alloc (.cells #[.int .i64 e.op, .string e.name, .int .i64 e.num, .slice A e.k cap, .int .i64 e.line, .int .i64 e.col] 26)
  have HB := hid hB
  clear hB
  by_cases hs : strOf e.op < least
  · have HT : Hid (e.txt least = 40 :: (e.bare ++ [41])) := by show _ = _; unfold Ex.txt wrapT; rw [if_pos hs]
    have hlen' : l.length + (e.bare.length + 2) ≤ 140737488355328 := by rw [HT.out] at hlen; simpa using hlen
    clear hlen
    unfold Ex.val
    go_enter Tryd.func19, Tryd.ntmps19
    go_wp2_with fail
    refine (strength_any _ _).mono ?_
    rintro r w0 ⟨rfl, rfl⟩
    go_wp2_with fail
    generalize hV : w.alloc (.cells #[.int .i64 e.op, .string e.name, .int .i64 e.num, .slice A e.k cap, .int .i64 e.line, .int .i64 e.col] 26) = V at *
    have hV0 : w.heap.size + 1 = V.heap.size := by rw [← hV]; simp
    have HV := hid hV
    clear hV
    refine (all_new B b l [⟨#[40]⟩] _ _ _ _ V hW0 hV0 (by rfl) (by rfl) (by simp [joinB]; omega) (by decide)).mono ?_
    rintro r w1 ⟨rfl, hW1, hK1⟩
    have hX1 := hX0.wkeep hK1 (by omega)
    have hK1' := hK0.trans hK1
    obtain ⟨c0, c1, c2, c3, c4, c5⟩ := hX1.cells
    go_wp2_with fail
    refine (HB.out B b _ A cap w1 (hE.below (Nat.le_refl _) hK1'.below) hok hW1 (hT.below hK1'.below hB3) hB3 (by simp [joinB]; omega)).mono ?_
    rintro r w2 ⟨rfl, hW2, hK2⟩
    have hK2' := hK1'.trans hK2
    go_wp2_with fail
    refine (all_new B b _ [⟨#[41]⟩] _ _ _ _ w2 hW2 (by rfl) (by rfl) (by rfl) (by simp [joinB]; omega) (by decide)).mono ?_
    rintro r w3 ⟨rfl, hW3, hK3⟩
    go_wp2_with fail
    go_end0
    refine ⟨rfl, ?_, hK2'.trans hK3⟩
    rw [HT.out]
    simpa [joinB] using hW3
  · have HT : Hid (e.txt least = e.bare) := by show _ = _; unfold Ex.txt wrapT; rw [if_neg hs]
    have hlen' : l.length + e.bare.length ≤ 140737488355328 := by rw [HT.out] at hlen; exact hlen
    clear hlen
    obtain ⟨c0, c1, c2, c3, c4, c5⟩ := hX0.cells
    unfold Ex.val
    go_enter Tryd.func19, Tryd.ntmps19
    go_wp2_with fail
    refine (strength_any _ _).mono ?_
    rintro r w0 ⟨rfl, rfl⟩
    go_wp2_with fail
    refine (HB.out B b _ A cap _ (hE.below (Nat.le_refl _) hK0.below) hok hW0 (hT.below hK0.below hB3) hB3 hlen').mono ?_
    rintro r w2 ⟨rfl, hW2, hK2⟩
    go_wp2_with fail
    go_end0
    refine ⟨rfl, ?_, hK0.trans hK2⟩
    rw [HT.out]
    exact hW2
end Go.Proofs.YtnlikhjmmnaknaaDoor
