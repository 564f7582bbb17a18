/-
  The walks of awake and Few of the script's laws.
-/
import Derived.Test.YtmdnmodjdgcmjaaDoorHScTe
namespace Go.Proofs.YtmdnmodjdgcmjaaDoor
open Go.RowKit

/-- what Parse leaves, as laws use it -/
def ParseOut (p : List EvE × Nat × Int) (w : World) (r : Ending) (w' : World) : Prop :=
  Below w.heap.size w w' ∧ ∃ S : Sl, r = .returned (.tuple #[S.v p.1.length, .int .i64 (p.2.1 : Int), .int .i64 p.2.2]) ∧ EvsIs (Iv w.heap.size w'.heap.size) w' p.1 S
theorem parse_out {p : List EvE × Nat × Int} {w w' : World} {r : Ending} (h : ParsePost p w r w') : ParseOut p w r w' := by
  obtain ⟨xs, A, n, c, D, rfl, hn, hx, -, f⟩ := h
  have := f.evsDone hn
  rw [hx] at this
  refine ⟨f.low, ⟨A, c⟩, ?_, this⟩
  rw [← hx, List.length_map, hn]; rfl
theorem awake_text : parseV [99, 114, 97, 115, 104, 32, 45, 32, 48, 32, 49, 50, 56] = ([⟨5, -1, [], [0, 128]⟩], 0, 0) := by kernel_rfl
set_option maxRecDepth 100000 in
set_option maxHeartbeats 1000000 in
theorem awake_any (w : World) (hT : Tabs w) : Calls Tryd.prog 10 #[] w fun e w' => e = .returned (.bool true) ∧ Below w.heap.size w w' := by
  have hp := (parse_any ⟨#[99, 114, 97, 115, 104, 32, 45, 32, 48, 32, 49, 50, 56]⟩ w (by decide) hT).mono fun _ _ h => parse_out h
  rw [show (⟨#[99, 114, 97, 115, 104, 32, 45, 32, 48, 32, 49, 50, 56]⟩ : ByteArray).data.toList = [99, 114, 97, 115, 104, 32, 45, 32, 48, 32, 49, 50, 56] from rfl, awake_text] at hp
  go_enter Tryd.func10, Tryd.ntmps10
  go_wp2_with fail
  refine hp.mono ?_
  rintro r W1 ⟨hb, ⟨A, a⟩, rfl, he⟩
  obtain ⟨b, o, R, C, hA, ⟨c0, c1, c2, c3⟩, -⟩ := ev_cells he.evs (j := 0) (by simp)
  simp only at hA
  subst hA
  obtain ⟨RA, Rc⟩ := R
  obtain ⟨CA, Cc⟩ := C
  simp only [Sl.v, Nat.zero_mul, Nat.add_zero, List.getElem_cons_zero, List.length_cons, List.length_nil] at c0 c1 c2 c3 ⊢
  go_wp2_with fail
  go_ret
  exact ⟨rfl, hb⟩

def fewX (x : EvE) : Bool := decide (x.row.length ≤ 20) && decide (x.ch.length ≤ 100)
def fewV (l : List EvE) : Bool := l.all fewX && decide (l.length ≤ 60)
set_option maxRecDepth 100000 in
set_option maxHeartbeats 1000000 in
theorem few_any (l : List EvE) (S : Sl) (D : Nat → Prop) (w : World) (hl : EvsIs D w l S) (hD : ∀ n, D n → n < w.heap.size) :
    Calls Tryd.prog 14 #[S.v l.length] w fun e w' => e = .returned (.bool (fewV l)) ∧ Below w.heap.size w w' := by
  have hfit := hl.fits
  have hL := hid (fun W (hb : Below w.heap.size w W) => (hl.low hD hb).evs)
  obtain ⟨A, a⟩ := S
  simp only [Sl.v, Sl.fits, maxLen] at *
  have hx1 : (l.length : Int) ≤ 9223372036854775807 := by omega
  clear hl hD
  generalize hp : fewV l = p at *
  have hbad := hid (fun j (hj : j < l.length) (h : fewX l[j] = false) => show p = false by
    rw [← hp]; unfold fewV
    rw [show l.all fewX = false from List.all_eq_false.2 ⟨_, List.getElem_mem hj, by rw [h]; simp⟩]; rfl)
  have hend := hid (fun (h : (l.take l.length).all fewX = true) => show p = decide (l.length ≤ 60) by
    rw [List.take_length] at h; rw [← hp]; unfold fewV; rw [h]; rfl)
  clear hp
  obtain ⟨n, hn⟩ : ∃ n, n = l.length := ⟨_, rfl⟩
  rw [← hn] at hx1 ⊢
  clear hfit
  replace hn := hid hn
  go_enter Tryd.func14, Tryd.ntmps14
  go_wp2_with fail
  go_loopw [7] (fun i wr => ∃ j : Nat, j ≤ n ∧ i = .int .i64 j ∧ Hid ((l.take j).all fewX = true) ∧ Below w.heap.size w wr) (fun i _ => n - (intOf i).toNat)
  case atStart => exact ⟨0, Nat.zero_le _, rfl, rfl, Below.refl _ _⟩
  case round =>
    obtain ⟨j, hj, rfl, hall, hbr⟩ := hrel
    by_cases hlt : j < n
    · have hjl : j < l.length := by rw [← hn.out]; exact hlt
      obtain ⟨b, o, R, C, rfl, ⟨c0, c1, c2, c3⟩, hx⟩ := ev_cells (hL.out wr hbr) hjl
      have hbd := hbad.out j hjl
      have hmo : fewX l[j] = true → (l.take (j + 1)).all fewX = true := fun h => by
        rw [List.take_succ_eq_append_getElem hjl, List.all_append, hall.out]; simp [h]
      generalize l[j] = x at *
      have hj0 : (0 : Int) ≤ (j : Int) := by omega
      have hj1 : (j : Int) < (n : Int) := by omega
      obtain ⟨RA, Rc⟩ := R
      obtain ⟨CA, Cc⟩ := C
      have hfr := hx.fr
      have hfc := hx.fc
      simp only [Sl.v, Sl.fits] at c2 c3 hfr hfc
      unfold maxLen at hfr hfc
      have hb1 := hbr.alloc hbr.size (.cells #[.int .i64 x.kind, .int .i64 x.num, .slice RA x.row.length Rc, .slice CA x.ch.length Cc] 40)
      have hX := World.alloc_heap_new wr (.cells #[.int .i64 x.kind, .int .i64 x.num, .slice RA x.row.length Rc, .slice CA x.ch.length Cc] 40)
      have hfx : fewX x = (decide (x.row.length ≤ 20) && decide (x.ch.length ≤ 100)) := rfl
      replace hbd := hid hbd
      replace hmo := hid hmo
      clear hx
      obtain ⟨d0, d1, d2, d3, -⟩ := blk4 hX
      generalize x.row.length = r at *
      generalize x.ch.length = q at *
      generalize x.kind = xk at *
      generalize x.num = xn at *
      by_cases hr : r ≤ 20
      · have hi1 : ¬ (20 : Int) < (r : Int) := by omega
        by_cases hq : q ≤ 100
        · have hi2 : ¬ (100 : Int) < (q : Int) := by omega
          have hok := hid (hmo.out (by rw [hfx]; simp [hr, hq]))
          clear hfx hmo hbd
          go_wp2_with fail
          go_roundw
          case rel => exact ⟨j + 1, by omega, by go_num, hok.out, hb1⟩
          case measure => simp [intOf]; omega
        · have hi2 : (100 : Int) < (q : Int) := by omega
          obtain rfl := hbd.out (by rw [hfx]; simp [hq])
          clear hfx hmo hbd
          go_wp2_with fail
          go_ret
          exact ⟨rfl, hb1⟩
      · have hi1 : (20 : Int) < (r : Int) := by omega
        obtain rfl := hbd.out (by rw [hfx]; simp [hr])
        clear hfx hmo hbd
        go_wp2_with fail
        go_ret
        exact ⟨rfl, hb1⟩
    · have hje : j = n := by omega
      subst hje
      have he := hend.out (by rw [← hn.out]; exact hall.out)
      rw [← hn.out] at he
      subst he
      by_cases h6 : j ≤ 60
      · have hi : (j : Int) ≤ 60 := by omega
        go_wp2_with fail
        go_ret
        exact ⟨by simp [h6], hbr⟩
      · have hi : ¬ (j : Int) ≤ 60 := by omega
        go_wp2_with fail
        go_ret
        exact ⟨by simp, hbr⟩
end Go.Proofs.YtmdnmodjdgcmjaaDoor
