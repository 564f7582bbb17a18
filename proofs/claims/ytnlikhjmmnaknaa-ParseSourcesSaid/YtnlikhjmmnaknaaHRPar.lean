/-
  The walks of the reference's small parsing functions: Fail, Is, Take, Want, Name, Level.
-/
import Derived.Test.YtnlikhjmmnaknaaHParO
import Derived.Deep.QuietTactic
import Derived.BigQuiet
import Derived.StillTailTactics
namespace Go.Proofs.Ytnlikhjmmnaknaa
open Go.RowKit

set_option maxHeartbeats 1000000 in
theorem rfail_ok {s : ByteArray} {l : List Tk} {P g : Nat} {w : World} {i : Nat} (h : StOk s l P g w i) (e l2 c2 : Int) :
    Calls Try.prog 18 #[.pointer (some ⟨P, 0, none⟩), .int .i64 e, .agg #[.int .i64 l2, .int .i64 c2]] w fun r w' => r = .returned (.tuple #[]) ∧ PSt s l P g w' i e l2 c2 ∧ w.grownBy w' (some P) := by
  have h1 : PSt s l P g (w.alloc (.cells #[.int .i64 l2, .int .i64 c2] 25)) i 0 0 0 := PSt.alloc h _
  have hPs : P < w.heap.size := PSt.size h
  have hf := h1.fault e l2 c2
  have hgr : w.grownBy ((((w.alloc (.cells #[.int .i64 l2, .int .i64 c2] 25)).setCell ⟨P, 2, none⟩ (.int .i64 e)).setCell ⟨P, 3, none⟩ (.int .i64 l2)).setCell ⟨P, 4, none⟩ (.int .i64 c2)) (some P) := grown_trans (grown_alloc _ _ _) (grown_trans (grown_set _ _ _ _) (grown_trans (grown_set _ _ _ _) (grown_set _ _ _ _)))
  obtain ⟨c, c0, c1, c2', c3, c4, fz, hg, k0, k1, k2, k3, k4⟩ := h1.cells
  have fz2 := fz 2
  have fz3 := fz 3
  have fz4 := fz 4
  clear k0 k1 k2 k3 k4 fz
  go_enter Try.func18, Try.ntmps18
  go_upto_region 1 with fail
  have hn := World.alloc_heap_new w (.cells #[.int .i64 l2, .int .i64 c2] 25)
  generalize w.alloc (.cells #[.int .i64 l2, .int .i64 c2] 25) = W at *
  have q0 : W.cell? ⟨w.heap.size, 0, none⟩ = some (.int .i64 l2) := Lib.cell_of_heap hn 0
  have q1 : W.cell? ⟨w.heap.size, 1, none⟩ = some (.int .i64 c2) := Lib.cell_of_heap hn 1
  generalize w.heap.size = T at *
  go_wp2_with fail
  go_end0
  exact ⟨rfl, hf, hgr⟩
set_option maxHeartbeats 1000000 in
theorem rfail_bad {s : ByteArray} {l : List Tk} {P g : Nat} {w : World} {i : Nat} {er ln cl : Int} (h : PSt s l P g w i er ln cl) (he : er ≠ 0) (e l2 c2 : Int) :
    Calls Try.prog 18 #[.pointer (some ⟨P, 0, none⟩), .int .i64 e, .agg #[.int .i64 l2, .int .i64 c2]] w fun r w' => r = .returned (.tuple #[]) ∧ PSt s l P g w' i er ln cl ∧ w.grownBy w' (some P) := by
  have h1 : PSt s l P g (w.alloc (.cells #[.int .i64 l2, .int .i64 c2] 25)) i er ln cl := h.alloc _
  have hb : (er == 0) = false := by simp [he]
  obtain ⟨c, c0, c1, c2', c3, c4, fz, hg, k0, k1, k2, k3, k4⟩ := h1.cells
  clear k0 k1 k2 k3 k4 fz
  go_enter Try.func18, Try.ntmps18
  go_wp2_with fail
  go_end0
  exact ⟨rfl, h1, grown_alloc _ _ _⟩
theorem rfail_m {s : ByteArray} {l : List Tk} {P g : Nat} {w : World} {m : Md} (h : Sm s l P g w m) {e : Int} (he : e ≠ 0) (l2 c2 : Int) :
    Calls Try.prog 18 #[.pointer (some ⟨P, 0, none⟩), .int .i64 e, .agg #[.int .i64 l2, .int .i64 c2]] w fun r w' => r = .returned (.tuple #[]) ∧ Sm s l P g w' (m.fail e l2 c2) ∧ w.grownBy w' (some P) := by
  cases m with
  | ok i =>
    refine (rfail_ok h e l2 c2).mono ?_
    rintro r w1 ⟨rfl, h1, h2⟩
    exact ⟨rfl, ⟨he, i, h1⟩, h2⟩
  | bad er ln cl =>
    obtain ⟨h1, i, h2⟩ := h
    refine (rfail_bad h2 h1 e l2 c2).mono ?_
    rintro r w1 ⟨rfl, h3, h4⟩
    exact ⟨rfl, ⟨h1, i, h3⟩, h4⟩
/-- what a walk reads of the next token, and behind a new block -/
theorem Fr.reads {s : ByteArray} {l : List Tk} {P g : Nat} {w0 w : World} {m : Md} {ks : List Kp} (f : PF s l P g w0 m w ks) (o : Obj) : ∃ i c, (i < l.length ∧ (∀ j, m = .ok j → i = j) ∧ (i : Int) < (l.length : Int) ∧ (l.length : Int) ≤ 1000000) ∧
    (w.cell? ⟨P, 0, none⟩ = some (.slice (some ⟨g, 0, none⟩) l.length c) ∧ w.cell? ⟨P, 1, none⟩ = some (.int .i64 i) ∧ w.cell? ⟨g, i * 5, none⟩ = some (.int .i64 (tkN l i).kind) ∧ w.cell? ⟨g, i * 5 + 1, none⟩ = some (.string (tkN l i).text) ∧ w.cell? ⟨g, i * 5 + 2, none⟩ = some (.int .i64 (tkN l i).num) ∧ w.cell? ⟨g, i * 5 + 3, none⟩ = some (.int .i64 (lnN s l i)) ∧ w.cell? ⟨g, i * 5 + 4, none⟩ = some (.int .i64 (clN s l i))) ∧
    ((w.alloc o).cell? ⟨P, 0, none⟩ = some (.slice (some ⟨g, 0, none⟩) l.length c) ∧ (w.alloc o).cell? ⟨P, 1, none⟩ = some (.int .i64 i) ∧ (w.alloc o).cell? ⟨g, i * 5, none⟩ = some (.int .i64 (tkN l i).kind) ∧ (w.alloc o).cell? ⟨g, i * 5 + 1, none⟩ = some (.string (tkN l i).text) ∧ (w.alloc o).cell? ⟨g, i * 5 + 2, none⟩ = some (.int .i64 (tkN l i).num) ∧ (w.alloc o).cell? ⟨g, i * 5 + 3, none⟩ = some (.int .i64 (lnN s l i)) ∧ (w.alloc o).cell? ⟨g, i * 5 + 4, none⟩ = some (.int .i64 (clN s l i))) := by
  obtain ⟨i, er, ln, cl, hs, -, hj⟩ := f.sm.st
  obtain ⟨c, c0, c1, c2, c3, c4, -, hg, k0, k1, k2, k3, k4⟩ := hs.cells
  have hb : Below w.heap.size w (w.alloc o) := (Below.refl _ _).alloc (Nat.le_refl _) o
  have hk : ∀ {b k : Nat} {v : Value}, w.cell? ⟨b, k, none⟩ = some v → (w.alloc o).cell? ⟨b, k, none⟩ = some v := fun {b k v} h => (hb.cell (p := ⟨b, k, none⟩) (cell_lt h)).trans h
  have h1 := hs.lt
  have h2 := hs.max
  exact ⟨i, c, ⟨h1, hj, by omega, by omega⟩, ⟨c0, c1, k0, k1, k2, k3, k4⟩, ⟨hk c0, hk c1, hk k0, hk k1, hk k2, hk k3, hk k4⟩⟩
/-- is anything wrong? -/
theorem Fr.err {s : ByteArray} {l : List Tk} {P g : Nat} {w0 w : World} {m : Md} {ks : List Kp} (f : PF s l P g w0 m w ks) : ∃ er, w.cell? ⟨P, 2, none⟩ = some (.int .i64 er) ∧ (er != 0) = m.isBad ∧ (er == 0) = !m.isBad := by
  obtain ⟨i, er, ln, cl, hs, hb, -⟩ := f.sm.st
  obtain ⟨c, c0, c1, c2, -⟩ := hs.cells
  exact ⟨er, c2, hb, by rw [← hb]; simp [bne]⟩
theorem fail_isBad (m : Md) (a b c : Int) : (m.fail a b c).isBad = true := by cases m <;> rfl
theorem fail_fail (m : Md) (a b c a' b' c' : Int) : (m.fail a b c).fail a' b' c' = m.fail a b c := by cases m <;> rfl
end Go.Proofs.Ytnlikhjmmnaknaa
