/-
  The walk of the statement ScriptBack.
-/
import Derived.Test.YtmdnmodjdgcmjaaDoorHScAw
namespace Go.Proofs.YtmdnmodjdgcmjaaDoor
open Go.RowKit

theorem drew_below (w : World) (k : Nat) : Below w.heap.size w (w.drewN k) := ⟨rfl, rfl, rfl, Nat.le_refl _, fun _ _ => rfl⟩
/-- what the text of right events is, and what is parsed of it -/
theorem told_back {l : List EvE} (h : ∀ x ∈ l, rightV x = true ∧ x.fine) (hn : l.length ≤ 4096) : textV l = (upto l l.length, 0) ∧ parseV (upto l l.length) = (l, 0, 0) ∧ (upto l l.length).length ≤ 12288000 := by
  have ha : (l.take l.length).all rightV = true := by rw [List.take_length]; exact List.all_eq_true.2 fun x hx => (h x hx).1
  refine ⟨text_end (by omega) ha, ?_, ?_⟩
  · unfold upto; rw [List.take_length]; exact parse_text h hn
  · have := upto_len (fun x hx => (h x hx).2) l.length (Nat.le_refl _) ha
    omega
section
variable {B : Nat} {w : World}
/-- the calls that laws make, behind a world of theirs -/
theorem call_awake (hT : Tabs w) {W : World} (h : Below w.heap.size w W) : Calls Tryd.prog 10 #[] W fun e w' => e = .returned (.bool true) ∧ Below w.heap.size w w' :=
  (awake_any W (hT.below h)).mono fun _ _ ⟨h1, h2⟩ => ⟨h1, h.trans (h2.mono h.size)⟩
theorem call_few {l : List EvE} {A : Option Addr} {a : Nat} {D : Nat → Prop} (hl : EvsIs D w l ⟨A, a⟩) (hD : ∀ n, D n → n < w.heap.size) {W : World} (h : Below w.heap.size w W) : Calls Tryd.prog 14 #[.slice A l.length a] W fun e w' => e = .returned (.bool (fewV l)) ∧ Below w.heap.size w w' :=
  (few_any l ⟨A, a⟩ D W (hl.low hD h) fun n hn => Nat.lt_of_lt_of_le (hD n hn) h.size).mono fun _ _ ⟨h1, h2⟩ => ⟨h1, h.trans (h2.mono h.size)⟩
theorem call_text {l : List EvE} {A : Option Addr} {a : Nat} {D : Nat → Prop} {p : List UInt8 × Int} (hp : textV l = p) (hT : Tabs w) {W0 : World} (hl : EvsIs D W0 l ⟨A, a⟩) (hD : ∀ n, D n → n < W0.heap.size) (h0 : Below w.heap.size w W0) {W : World} (h : Below W0.heap.size W0 W) : Calls Tryd.prog 15 #[.slice A l.length a] W fun e w' => e = .returned (.tuple #[.string ⟨p.1.toArray⟩, .int .i64 p.2]) ∧ Below W0.heap.size W0 w' := by
  subst hp
  exact (text_any l ⟨A, a⟩ D W (hl.low hD h) (fun n hn => Nat.lt_of_lt_of_le (hD n hn) h.size) ((hT.below h0).below h)).mono fun _ _ ⟨h1, h2⟩ => ⟨h1, h.trans (h2.mono h.size)⟩
theorem call_parse {s : ByteArray} {p : List EvE × Nat × Int} (hp : parseV s.data.toList = p) (hs : s.size ≤ 19999998) (hT : Tabs w) {W : World} (h : Below w.heap.size w W) : Calls Tryd.prog 11 #[.string s] W fun r w' => Below w.heap.size w w' ∧ Below W.heap.size W w' ∧ ∃ A a, r = .returned (.tuple #[.slice A p.1.length a, .int .i64 (p.2.1 : Int), .int .i64 p.2.2]) ∧ EvsIs (Iv W.heap.size w'.heap.size) w' p.1 ⟨A, a⟩ := by
  subst hp
  exact (parse_any s W hs (hT.below h)).mono fun _ _ h1 => by
    obtain ⟨h2, ⟨A, a⟩, h3, h4⟩ := parse_out h1
    exact ⟨h.trans (h2.mono h.size), h2, A, a, h3, h4⟩
theorem call_same {l : List EvE} {A A' : Option Addr} {a a' : Nat} {D D' : Nat → Prop} {W : World} (hl : EvsIs D W l ⟨A, a⟩) (hm : EvsIs D' W l ⟨A', a'⟩) : Calls Tryd.prog 13 #[.slice A l.length a, .slice A' l.length a'] W fun e w' => e = .returned (.bool true) ∧ Below W.heap.size W w' :=
  (same_ref l l ⟨A, a⟩ ⟨A', a'⟩ D D' W hl hm).mono fun _ _ ⟨h1, k, h2⟩ => ⟨by rw [h1, decide_eq_true rfl], by rw [h2]; exact drew_below _ _⟩
end
theorem few_len {l : List EvE} (h : fewV l = true) : l.length ≤ 60 := by
  unfold fewV at h
  simp only [Bool.and_eq_true, decide_eq_true_eq] at h
  exact h.2
theorem evs_fine {D : Nat → Prop} {w : World} {l : List EvE} {S : Sl} (h : EvsIs D w l S) : ∀ x ∈ l, x.fine := fun x hx => by
  obtain ⟨j, hj, rfl⟩ := List.getElem_of_mem hx
  obtain ⟨b, o, R, C, -, -, h⟩ := ev_cells h.evs hj
  exact ev_fine h

set_option maxRecDepth 100000 in
set_option maxHeartbeats 1000000 in
theorem scriptBack_any (l : List EvE) (S : Sl) (s : ByteArray) (D : Nat → Prop) (w : World) (hl : EvsIs D w l S) (hD : ∀ n, D n → n < w.heap.size) (hs : s.size ≤ maxLen) (hT : Tabs w) :
    Calls Tryd.prog 4 #[S.v l.length, .string s] w fun r w' => r = .returned (.bool true) ∧ Below w.heap.size w w' := by
  have hfit := hl.fits
  have hfn := evs_fine hl
  obtain ⟨A, a⟩ := S
  simp only [Sl.v, Sl.fits, maxLen] at *
  have hx1 : (l.length : Int) ≤ 9223372036854775807 := by omega
  have hs1 : (s.size : Int) ≤ 9223372036854775807 := by omega
  have haw := hid (fun W (h : Below w.heap.size w W) => call_awake hT h)
  have hfw := hid (fun W (h : Below w.heap.size w W) => call_few hl hD h)
  have hlk := hid (fun W (h : Below w.heap.size w W) => hl.low hD h)
  have htx := hid (fun p (hp : textV l = p) W (h : Below w.heap.size w W) => call_text hp hT hl hD (Below.refl _ _) h)
  clear hfit hl
  go_enter Tryd.func4, Tryd.ntmps4
  go_wp2_with fail
  refine (haw.out w (Below.refl _ _)).mono ?_
  rintro r W1 ⟨rfl, h1⟩
  go_wp2_with fail
  refine (hfw.out W1 h1).mono ?_
  rintro r W2 ⟨rfl, h2⟩
  clear h1 haw hfw
  cases hfl : fewV l with
  | false =>
    go_wp2_with fail
    go_ret
    exact ⟨rfl, h2⟩
  | true =>
    have hl60 := few_len hfl
    clear hfl
    by_cases hsz : s.size ≤ 2000
    case neg =>
      have hi : (2000 : Int) < (s.size : Int) := by omega
      go_wp2_with fail
      go_ret
      exact ⟨rfl, h2⟩
    case pos =>
    have hi : ¬ (2000 : Int) < (s.size : Int) := by omega
    have hall : (∃ t, textV l = (t, 0) ∧ t.length ≤ 12288000 ∧ parseV t = (l, 0, 0)) ∨ textV l = ([], 2) := by
      by_cases hall : l.all rightV = true
      · obtain ⟨t1, t2, t3⟩ := told_back (l := l) (fun x hx => ⟨List.all_eq_true.1 hall x hx, hfn x hx⟩) (by omega)
        exact .inl ⟨_, t1, t3, t2⟩
      · exact .inr (by unfold textV; rw [if_neg (by omega), if_neg hall])
    replace hall := hid hall
    go_upto_region 5 with fail
    rcases hp : textV l with ⟨t, e⟩
    have htx2 := hid (htx.out _ hp)
    rw [hp] at hall
    clear htx hp
    go_upto_if 34 with (go_at_call 15; refine (htx2.out W2 h2).mono ?_; rintro r W3 ⟨rfl, h3⟩; clear htx2 h2)
    go_cut [7] from 34 to 52 (fun _ wx => Below w.heap.size w wx)
    case first =>
      rcases hall.out with ⟨t', he, t3, t2⟩ | he
      · injection he with h1 h2
        subst h1 h2
        have hpa := hid (fun W (h : Below w.heap.size w W) => call_parse (s := ⟨t.toArray⟩) t2 (by rw [str_len]; omega) hT h)
        go_wp2_with fail
        refine (hpa.out W3 h3).mono ?_
        rintro r W4 ⟨h4, hb4, A4, a4, rfl, he4⟩
        have hsm := hid (call_same (hlk.out W4 h4) he4)
        simp only
        go_wp2_with fail
        refine hsm.out.mono ?_
        rintro r W5 ⟨rfl, h5⟩
        have h6 := h4.trans (h5.mono h4.size)
        go_wp2_with fail
        go_meet
        case rel => exact h6
      · injection he with h1 h2
        subst h1 h2
        go_wp2_with fail
        go_meet
        case rel => exact h3
    case rest =>
    clear hlk hfn hall
    rename_i wc
    have h0 : Below w.heap.size w wc := hcut
    rcases hpv : parseV s.data.toList with ⟨m, k, e⟩
    have hpa := hid (fun W (h : Below w.heap.size w W) => call_parse (s := s) hpv (by omega) hT h)
    by_cases he : e = 0
    · subst he
      obtain ⟨rfl, hm, hmr⟩ := parse_good _ 0 [] m k (by simp) (by simp) hpv
      obtain ⟨t1, t2, t3⟩ := told_back hmr hm
      generalize upto m m.length = t at *
      clear hmr hpv
      go_wp2_with fail
      refine (hpa.out wc h0).mono ?_
      rintro r W1 ⟨h1, hb1, A1, a1, rfl, he1⟩
      have htx := hid (fun W (h : Below W1.heap.size W1 W) => call_text t1 hT he1 (fun n hn => hn.2) h1 h)
      have hlm := hid (fun W (h : Below W1.heap.size W1 W) => he1.low (fun n hn => hn.2) h)
      have hpb := hid (fun W (h : Below w.heap.size w W) => call_parse (s := ⟨t.toArray⟩) t2 (by rw [str_len]; omega) hT h)
      clear t1 t2 hpa he1
      simp only
      go_wp2_with fail
      refine (htx.out W1 (Below.refl _ _)).mono ?_
      rintro r W2 ⟨rfl, h2⟩
      go_wp2_with fail
      refine (hpb.out W2 (h1.trans (h2.mono h1.size))).mono ?_
      rintro r W3 ⟨h3, hb3, A3, a3, rfl, he3⟩
      have hsm := hid (call_same (hlm.out W3 (h2.trans (hb3.mono h2.size))) he3)
      simp only
      go_wp2_with fail
      refine hsm.out.mono ?_
      rintro r W4 ⟨rfl, h4⟩
      go_wp2_with fail
      go_ret
      exact ⟨rfl, h3.trans (h4.mono h3.size)⟩
    · obtain ⟨rfl, hk⟩ := parse_bad _ _ _ _ _ _ hpv he
      have he1 : (e == 0) = false := beq_eq_false_iff_ne.2 he
      have hk1 : (1 : Int) ≤ (k : Int) := by omega
      clear hpv
      go_wp2_with fail
      refine (hpa.out wc h0).mono ?_
      rintro r W1 ⟨h1, hb1, A1, a1, rfl, he1⟩
      simp only [List.length_nil]
      go_wp2_with fail
      go_ret
      exact ⟨rfl, h1⟩
theorem scriptBack_arg (l : List EvE) (S : Sl) (s : ByteArray) (w : World) (hl : EvsIs (· < w.heap.size) w l S) (hs : s.size ≤ maxLen) (hT : Tabs w) :
    Calls Tryd.prog 4 #[S.v l.length, .string s] w fun r w' => r = .returned (.bool true) ∧ Below w.heap.size w w' := scriptBack_any l S s _ w hl (fun _ h => h) hs hT
end Go.Proofs.YtmdnmodjdgcmjaaDoor
