/-
  The walk of the statement TraceRows.
-/
import Derived.Test.YtmdnmodjdgcmjaaDoorHTrA
import Derived.Test.YtmdnmodjdgcmjaaDoorHTrW
import Derived.Test.YtmdnmodjdgcmjaaDoorHTrX
namespace Go.Proofs.YtmdnmodjdgcmjaaDoor
open Go.RowKit

theorem Fr.ints {P : Option Nat} {S : World → Prop} {w0 w : World} {ks : List Kp} {A : Option Addr} {n c : Nat} {ls : List Int} (h : Fr P S w0 w (rowK w0 3 1 (.slice A n c) n (ls.flatMap intC) :: ks)) (hn : ls.length = n) : IntsAt w A ls := fun j hj => by
  obtain ⟨b, o, hA, hc⟩ := (sl_own intC 1 (fun _ => rfl) (D := fun _ => True) hn h.head.q (fun _ _ => trivial) (P := fun b o v => w.cell? ⟨b, o, none⟩ = some (.int .i64 v)) (fun b o j hj hD hc => hc 0 (by omega))).2 j hj
  exact ⟨b, o, hA, by rwa [Nat.mul_one] at hc⟩
theorem Fr.intsLen {P : Option Nat} {S : World → Prop} {w0 w : World} {ks : List Kp} {A : Option Addr} {n c : Nat} {ls : List Int} (h : Fr P S w0 w (rowK w0 3 1 (.slice A n c) n (ls.flatMap intC) :: ks)) (hn : ls.length = n) : n ≤ c ∧ c ≤ maxLen :=
  (sl_own intC 1 (fun _ => rfl) (D := fun _ => True) hn h.head.q (fun _ _ => trivial) (P := fun b o v => w.cell? ⟨b, o, none⟩ = some (.int .i64 v)) (fun b o j hj hD hc => hc 0 (by omega))).1
def outR : Option (List Int) → List Int × Int
  | none => ([], 11)
  | some l => (l, 0)
theorem readW_right {ts : List Int} {s : List UInt8} (h : rightT ts = true) : readW ts s = outR (rowR ts s) := by
  unfold readW outR
  rw [if_neg (by rw [h]; decide)]
  rfl
set_option maxRecDepth 100000 in
set_option maxHeartbeats 2000000 in
theorem traceRows_any (ts l : List Int) (S S' : Sl) (s : ByteArray) (w : World) (hx : IntsAt w S.A ts) (hfx : S.fits ts.length) (hy : IntsAt w S'.A l) (hfy : S'.fits l.length) (hI : ∀ v ∈ l, I64 v) (hs : s.size ≤ maxLen) (hT : Tabs w) (hM : MxC w) :
    Calls Tryd.prog 7 #[S.v ts.length, S'.v l.length, .string s] w fun r w' => r = .returned (.bool true) ∧ Below w.heap.size w w' := by
  obtain ⟨A, a⟩ := S
  obtain ⟨B, b⟩ := S'
  simp only [Sl.v, Sl.fits] at *
  have hn : ts.length ≤ maxLen := Nat.le_trans hfx.1 hfx.2
  have hm : l.length ≤ maxLen := Nat.le_trans hfy.1 hfy.2
  have haw := hid (fun W (h : Below w.heap.size w W) => (tawake_any W (hT.below h)).mono fun _ _ (g : _ ∧ Below W.heap.size W _) => (⟨g.1, h.trans (g.2.mono h.size)⟩ : _ ∧ Below w.heap.size w _))
  have hrow := hid (fun W (h : Below w.heap.size w W) => row_any ts l A B a b W (hx.keep h) (hy.keep h) hI hn hm (hT.below h))
  have hrr := hid (fun hz W (h : Below w.heap.size w W) => readrow_any ts A a s W (hx.keep h) hn hz (hT.below h) (hM.below h))
  have hRr := hid (fun W (h : Below w.heap.size w W) => rright_t ts A a W (hx.keep h) hn)
  have hRf := hid (fun W (h : Below w.heap.size w W) => rfits_t ts l A B a b W (hx.keep h) (hy.keep h) hn hm)
  have hRw := hid (fun hl hk h100 W (h : Below w.heap.size w W) => rrow_any ts l A B a b W (hx.keep h) (hy.keep h) hI hl hk h100)
  have hRR := hid (fun h100 hk hz W (h : Below w.heap.size w W) => rreadrow_any ts A a s W (hx.keep h) h100 hk hz)
  unfold maxLen at *
  have hx1 : (ts.length : Int) ≤ 9223372036854775807 := by omega
  have hy1 : (l.length : Int) ≤ 9223372036854775807 := by omega
  have hs1 : (s.size : Int) ≤ 9223372036854775807 := by omega
  clear hx hy hfx hfy hT hM
  go_enter Tryd.func7, Tryd.ntmps7
  go_wp2_with fail
  refine (haw.out w (Below.refl _ _)).mono ?_
  rintro r W1 ⟨rfl, h1⟩
  clear haw
  by_cases l1 : ts.length ≤ 20
  case neg =>
    have hi : (20 : Int) < (ts.length : Int) := by omega
    go_wp2_with fail
    go_ret
    exact ⟨rfl, h1⟩
  by_cases l2 : l.length ≤ 20
  case neg =>
    have hi0 : ¬ (20 : Int) < (ts.length : Int) := by omega
    have hi : (20 : Int) < (l.length : Int) := by omega
    go_wp2_with fail
    go_ret
    exact ⟨rfl, h1⟩
  by_cases l3 : s.size ≤ 500
  case neg =>
    have hi0 : ¬ (20 : Int) < (ts.length : Int) := by omega
    have hi1 : ¬ (20 : Int) < (l.length : Int) := by omega
    have hi : (500 : Int) < (s.size : Int) := by omega
    go_wp2_with fail
    go_ret
    exact ⟨rfl, h1⟩
  have hi0 : ¬ (20 : Int) < (ts.length : Int) := by omega
  have hi1 : ¬ (20 : Int) < (l.length : Int) := by omega
  have hi2 : ¬ (500 : Int) < (s.size : Int) := by omega
  cases hR : rightT ts with
  | false =>
    have hw : rowW ts l = ([], 2) := by unfold rowW; rw [if_pos hR]
    have hz : readW ts s.data.toList = ([], 2) := by unfold readW; rw [if_pos hR]
    rw [hw] at hrow
    rw [hz] at hrr
    rw [hR] at hRr
    go_wp2_with fail
    refine (hrow.out W1 h1).mono ?_
    rintro r W2 ⟨rfl, hb⟩
    have h2 := h1.trans (hb.mono h1.size)
    go_wp2_with fail
    refine (hrr.out (by omega) W2 h2).mono ?_
    rintro r W3 ⟨A3, n3, c3, rfl, hl3, -, hnil, f3⟩
    obtain rfl : n3 = 0 := hl3.symm
    have h3 := h2.trans (f3.low.mono h2.size)
    go_wp2_with fail
    refine (hRr.out W3 h3).mono ?_
    rintro r W4 ⟨rfl, rfl⟩
    go_wp2_with fail
    go_ret
    exact ⟨rfl, h3⟩
  | true =>
    have h8 := (right_cons hR).2.1
    have hkt := hid (right_cons hR).2.2
    obtain ⟨o, ho⟩ : ∃ o, o = rowR ts s.data.toList := ⟨_, rfl⟩
    rw [readW_right hR, ← ho] at hrr
    rw [← ho] at hRR
    clear ho
    rw [hR] at hRr
    go_upto_region 6 with (go_at_call 21; refine (hrow.out W1 h1).mono ?_; rintro r W2 ⟨rfl, hb⟩; have h2 := h1.trans (hb.mono h1.size))
    go_wp2_with fail
    refine (hrr.out (by omega) W2 h2).mono ?_
    rintro r W3 ⟨A3, n3, c3, rfl, hl3, -, hnil, f3⟩
    have h3 := h2.trans (f3.low.mono h2.size)
    go_wp2_with fail
    refine (hRr.out W3 h3).mono ?_
    rintro r W4 ⟨rfl, rfl⟩
    go_wp2_with fail
    refine (hRf.out W3 h3).mono ?_
    rintro r W4 ⟨rfl, rfl⟩
    have hRR2 := hid (hRR.out (by omega) hkt.out (by omega) W3 h3)
    clear hRr hrr hRR h1 hb h2
    go_upto_if 60 with fail
    go_cut [] from 60 to 75 (fun wx => wx = W3)
    case first =>
      cases hF : fitsT ts l with
      | true =>
        rw [rowW_fit hF] at *
        have hRw2 := hid (hRw.out (fits_cons hF).2.1 hkt.out (by omega) W3 h3)
        go_wp2_with fail
        refine hRw2.out.mono ?_
        rintro r W4 ⟨rfl, rfl⟩
        go_wp2_with fail
        go_meet
        case rel => exact rfl
      | false =>
        rw [rowW_bad hR hF] at *
        go_wp2_with fail
        go_meet
        case rel => exact rfl
    case rest =>
    obtain rfl := Eq.symm hcut
    cases o with
    | none =>
      have hn0 : n3 = 0 := hl3.symm
      subst hn0
      simp only [outR]
      go_wp2_with fail
      refine hRR2.out.mono ?_
      rintro r W4 ⟨ls, A4, n4, c4, ok, rfl, hl4, -, -, hok, f4⟩
      obtain rfl := hok rfl
      go_wp2_with fail
      go_ret
      exact ⟨rfl, h3.trans (f4.low.mono h3.size)⟩
    | some lr =>
      simp only [outR]
      have hi3 := hid (fun W (h : Below W3.heap.size W3 W) => (f3.ints hl3).keep h)
      go_wp2_with fail
      refine hRR2.out.mono ?_
      rintro r W4 ⟨ls, A4, n4, c4, ok, rfl, hl4, -, hok, -, f4⟩
      obtain ⟨rfl, rfl⟩ := hok lr rfl
      have hint := rints_any ls ls A3 A4 c3 c4 W4 (hi3.out W4 f4.low) (f4.ints hl4)
      replace hl3 : ls.length = n3 := hl3
      obtain rfl : n3 = n4 := hl3.symm.trans hl4
      have hb3 : ls.length ≤ maxLen := by
        have := f3.intsLen hl3
        rw [hl3]; exact Nat.le_trans this.1 this.2
      replace hint := hid (hint hb3 hb3)
      rw [hl3] at hint
      go_wp2_with fail
      refine hint.out.mono ?_
      rintro r W5 ⟨rfl, k, rfl⟩
      go_wp2_with fail
      go_ret
      exact ⟨by simp, (h3.trans (f4.low.mono h3.size)).trans ⟨rfl, rfl, rfl, Nat.le_refl _, fun _ _ => rfl⟩⟩
end Go.Proofs.YtmdnmodjdgcmjaaDoor
