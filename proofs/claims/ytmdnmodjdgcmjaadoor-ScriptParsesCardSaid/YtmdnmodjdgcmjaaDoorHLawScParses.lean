/-
  The walk of the statement ScriptParses.
-/
import Derived.Test.YtmdnmodjdgcmjaaDoorHScRp
import Derived.Test.YtmdnmodjdgcmjaaDoorHLawScBack
namespace Go.Proofs.YtmdnmodjdgcmjaaDoor
open Go.RowKit

theorem call_rparse {w : World} {s : ByteArray} {p : List EvE × Nat × Int} (hp : parseV s.data.toList = p) (hs : s.size ≤ 19999998) {W : World} (h : Below w.heap.size w W) : Calls Tryd.prog 12 #[.string s] W fun r w' => Below w.heap.size w w' ∧ Below W.heap.size W w' ∧ ∃ A a, r = .returned (.tuple #[.slice A p.1.length a, .int .i64 (p.2.1 : Int), .int .i64 p.2.2]) ∧ EvsIs (Iv W.heap.size w'.heap.size) w' p.1 ⟨A, a⟩ := by
  subst hp
  exact (rparse_any s W hs).mono fun _ _ h1 => by
    obtain ⟨h2, ⟨A, a⟩, h3, h4⟩ := parse_out h1
    exact ⟨h.trans (h2.mono h.size), h2, A, a, h3, h4⟩

set_option maxRecDepth 100000 in
set_option maxHeartbeats 1000000 in
theorem scriptParses_any (s : ByteArray) (w : World) (hs : s.size ≤ maxLen) (hT : Tabs w) :
    Calls Tryd.prog 3 #[.string s] w fun r w' => r = .returned (.bool true) ∧ Below w.heap.size w w' := by
  unfold maxLen at hs
  have hs1 : (s.size : Int) ≤ 9223372036854775807 := by omega
  have haw := hid (fun W (h : Below w.heap.size w W) => call_awake hT h)
  go_enter Tryd.func3, Tryd.ntmps3
  go_wp2_with fail
  refine (haw.out w (Below.refl _ _)).mono ?_
  rintro r W1 ⟨rfl, h1⟩
  by_cases hsz : s.size ≤ 2000
  case neg =>
    have hi : (2000 : Int) < (s.size : Int) := by omega
    go_wp2_with fail
    go_ret
    exact ⟨rfl, h1⟩
  case pos =>
  have hi : ¬ (2000 : Int) < (s.size : Int) := by omega
  rcases hpv : parseV s.data.toList with ⟨m, k, e⟩
  have hpa := hid (fun W (h : Below w.heap.size w W) => call_parse (s := s) hpv (by omega) hT h)
  have hpr := hid (fun W (h : Below w.heap.size w W) => call_rparse (s := s) hpv (by omega) h)
  clear hpv haw
  go_wp2_with fail
  refine (hpa.out W1 h1).mono ?_
  rintro r W2 ⟨h2, hb2, A2, a2, rfl, he2⟩
  simp only
  go_wp2_with fail
  refine (hpr.out W2 h2).mono ?_
  rintro r W3 ⟨h3, hb3, A3, a3, rfl, he3⟩
  have hsm := hid (call_same (he2.low (fun n hn => hn.2) hb3) he3)
  simp only
  go_wp2_with fail
  refine hsm.out.mono ?_
  rintro r W4 ⟨rfl, h4⟩
  go_wp2_with fail
  go_ret
  exact ⟨rfl, h3.trans (h4.mono h3.size)⟩
end Go.Proofs.YtmdnmodjdgcmjaaDoor
