/-
  An argument that is a row of events, opened; and the listed variables of the script's and the trace's laws.
-/
import Derived.Test.YtmdnmodjdgcmjaaDoorHOpen
import Derived.Test.YtmdnmodjdgcmjaaDoorHScAw
import Derived.LaidMore
import Derived.Stop.LaidErr
import Derived.Lib.LaidTab
namespace Go.Proofs.YtmdnmodjdgcmjaaDoor
open Go.ChangeShapes Go.WideShapes Go.ChangeAt Go.RowKit Go.Deep

theorem cells_ev : Tryd.prog.cellsOf 40 = 4 := by kernel_rfl
theorem cells_ints : Tryd.prog.cellsOf 38 = 1 := by kernel_rfl
theorem cells_bytes : Tryd.prog.cellsOf 36 = 1 := by kernel_rfl
theorem cells_byte : Tryd.prog.cellsOf 5 = 1 := by kernel_rfl
theorem u8_of_wf {x : Int} (h : (Lit.int .u8 x).wf = true) : 0 ≤ x ∧ x < 256 := by
  have : 0 ≤ x ∧ x ≤ 255 := by simpa [Lit.wf, IntKind.min, IntKind.max, IntKind.signed, IntKind.bits] using h
  omega
section
variable {H : Type} {enc : TypeId × Value → H} {w : World} {base : Nat} {spare : Nat → Bool} {held : Bool}
theorem open_i64 {fuel : Nat} {cs : List Value} {x : DataW H × List MemPlace} (h : DataW.trod enc Tryd.prog w base spare held fuel 3 cs = some x) : ∃ y : Int, cs = [.int .i64 y] ∧ I64 y := by
  obtain ⟨n, c, _, hw⟩ := DataW.trod_int Tryd.underlying3 h
  exact ⟨n, c, i64_of_wf hw⟩
theorem open_u8 {fuel : Nat} {cs : List Value} {x : DataW H × List MemPlace} (h : DataW.trod enc Tryd.prog w base spare held fuel 5 cs = some x) : ∃ y : UInt8, cs = [.int .u8 (y.toNat : Int)] := by
  obtain ⟨n, c, _, hw⟩ := DataW.trod_int Tryd.underlying5 h
  have := u8_of_wf hw
  refine ⟨UInt8.ofNat n.toNat, ?_⟩
  rw [c, UInt8.toNat_ofNat', show ((n.toNat % 2 ^ 8 : Nat) : Int) = n by omega]
def EvQ (w : World) (es : List Value) (x : EvE) : Prop := ∃ R C : Sl, es = [.int .i64 x.kind, .int .i64 x.num, R.v x.row.length, C.v x.ch.length] ∧ EvOf (· < w.heap.size) w x R C
set_option maxRecDepth 100000 in
theorem open_ev {fuel : Nat} {cs : List Value} {x : DataW H × List MemPlace} (h : DataW.trod enc Tryd.prog w base spare held fuel 40 cs = some x) : ∃ v : EvE, EvQ w cs v := by
  obtain ⟨xs, fuel, rfl, _, hcl, hxl, hf⟩ := DataW.trod_struct Tryd.underlying40 h
  rw [cells_ev] at hcl
  have hx : ∀ i, i < 4 → ∃ y, xs[i]? = some y := fun i hi => ⟨xs[i]'(by rw [hxl]; exact hi), List.getElem?_eq_getElem _⟩
  obtain ⟨y0, e0⟩ := hx 0 (by omega)
  obtain ⟨y1, e1⟩ := hx 1 (by omega)
  obtain ⟨y2, e2⟩ := hx 2 (by omega)
  obtain ⟨y3, e3⟩ := hx 3 (by omega)
  have f0 : DataW.trod enc Tryd.prog w base spare held fuel 3 (List.take (Tryd.prog.cellsOf 3) (List.drop 0 cs)) = xs[0]? := hf 0 _ rfl
  have f1 : DataW.trod enc Tryd.prog w base spare held fuel 3 (List.take (Tryd.prog.cellsOf 3) (List.drop 1 cs)) = xs[1]? := hf 1 _ rfl
  have f2 : DataW.trod enc Tryd.prog w base spare held fuel 38 (List.take (Tryd.prog.cellsOf 38) (List.drop 2 cs)) = xs[2]? := hf 2 _ rfl
  have f3 : DataW.trod enc Tryd.prog w base spare held fuel 36 (List.take (Tryd.prog.cellsOf 36) (List.drop 3 cs)) = xs[3]? := hf 3 _ rfl
  rw [cells_int, e0] at f0
  rw [cells_int, e1] at f1
  rw [cells_ints, e2] at f2
  rw [cells_bytes, e3] at f3
  obtain ⟨k, c0, u0⟩ := open_i64 f0
  obtain ⟨n, c1, u1⟩ := open_i64 f1
  obtain ⟨R, r, c2, hfr, hR⟩ := open_sl (sz := 1) (fun es (y : Int) => es = [.int .i64 y] ∧ I64 y) Tryd.underlying38 cells_int (by omega) (fun _ _ _ h => open_i64 h) f2
  obtain ⟨C, c, c3, hfc, hC⟩ := open_sl (sz := 1) (fun es (y : UInt8) => es = [.int .u8 (y.toNat : Int)]) Tryd.underlying36 cells_byte (by omega) (fun _ _ _ h => open_u8 h) f3
  match cs, hcl with
  | [a0, a1, a2, a3], _ =>
    simp only [List.drop_zero, List.drop_succ_cons, List.take_succ_cons, List.take_zero, List.cons.injEq, and_true] at c0 c1 c2 c3
    subst c0 c1 c2 c3
    exact ⟨⟨k, n, r, c⟩, R, C, rfl, u0, u1, hfr, hfc, hR.imp fun b o y ⟨hb, es, _, ⟨he, hs⟩, hc⟩ => by subst he; exact ⟨hb, hs, hc 0 (by omega)⟩,
      hC.imp fun b o y ⟨hb, es, _, he, hc⟩ => by subst he; exact ⟨hb, hc 0 (by omega)⟩⟩
theorem slat_ev {A : Option Addr} {xs : List EvE} (h : SlAt 4 (fun b o y => b < w.heap.size ∧ ∃ es : List Value, es.length = 4 ∧ EvQ w es y ∧ ∀ i, i < 4 → w.cell? ⟨b, o + i, none⟩ = es[i]?) A xs) : SlAt 4 (EvIn (· < w.heap.size) w) A xs :=
  h.imp fun b o y ⟨hb, es, _, ⟨R, C, he, hs⟩, hc⟩ => by subst he; exact ⟨hb, R, C, ⟨hc 0 (by omega), hc 1 (by omega), hc 2 (by omega), hc 3 (by omega)⟩, hs⟩
end
set_option maxRecDepth 100000 in
/-- An argument that is a row of events. -/
theorem open_evs_val {H : Type} {enc : TypeId × Value → H} {w : World} {base b0 : Nat} {r : Reach} {spare : Nat → Bool} {held : Bool} {v : Value} {d : DataW H} {ps : List MemPlace}
    (hval : Value.okWide Tryd.prog w r b0 23 v) (h : DataW.Trod enc Tryd.prog w base spare held 23 v d ps) : ∃ (l : List EvE) (S : Sl), v = S.v l.length ∧ EvsIs (· < w.heap.size) w l S := by
  obtain ⟨a, len, cap, rfl⟩ := okWide_slice Tryd.underlying23 hval
  obtain ⟨fuel, hf⟩ := h
  haveI : Inhabited EvE := ⟨⟨0, 0, [], []⟩⟩
  obtain ⟨S, l, hv, hfit, hs⟩ := open_sl (sz := 4) (EvQ w) Tryd.underlying23 cells_ev (by omega) (fun _ _ _ h => open_ev h) hf
  refine ⟨l, S, ?_, hfit, slat_ev hs⟩
  simpa [Value.cells] using hv

set_option maxRecDepth 100000 in
/-- An argument that is a uint16. -/
theorem open_u16_val {H : Type} {enc : TypeId × Value → H} {w : World} {base b0 : Nat} {r : Reach} {spare : Nat → Bool} {held : Bool} {v : Value} {d : DataW H} {ps : List MemPlace}
    (hval : Value.okWide Tryd.prog w r b0 35 v) (h : DataW.Trod enc Tryd.prog w base spare held 35 v d ps) : ∃ n : Nat, v = .int .u16 (n : Int) ∧ n < 65536 := by
  obtain ⟨n, rfl, rfl, rfl, hwf⟩ := open_int Tryd.underlying35 hval h
  have : 0 ≤ n ∧ n < 65536 := by simp [Lit.wf, IntKind.min, IntKind.max, IntKind.signed, IntKind.bits] at hwf; omega
  exact ⟨n.toNat, by rw [Int.toNat_of_nonneg this.1], by omega⟩

theorem kitOwn : ownKnob Tryd.prog.godebug = none := by kernel_rfl
theorem kitLaid : laidOutB Tryd.prog = true := by kernel_rfl
/-- the variables that the rows list -/
def kitTabs : List (String × DataW Unit) := [("math/bits.deBruijn32tab", Rows.laid_math_bits_deBruijn32tab), ("math/bits.deBruijn64tab", Rows.laid_math_bits_deBruijn64tab), ("internal/strconv.uint64pow10", Rows.laid_internal_strconv_uint64pow10), ("strconv.ErrRange", Rows.laid_strconv_ErrRange), ("strconv.ErrSyntax", Rows.laid_strconv_ErrSyntax)]
theorem tab_type : (Tryd.prog.globals[(3 : Nat)]?).map (·.type) = some 137 := by kernel_rfl
theorem tab_cells : Tryd.prog.cellsOf 137 = 20 := by kernel_rfl
theorem tab_cell : Tryd.prog.cellsOf 121 = 1 := by kernel_rfl
theorem syn_type : (Tryd.prog.globals[(1 : Nat)]?).map (·.type) = some 77 := by kernel_rfl
theorem rng_type : (Tryd.prog.globals[(2 : Nat)]?).map (·.type) = some 77 := by kernel_rfl
theorem cells_es : Tryd.prog.cellsOf 146 = 1 := by kernel_rfl
theorem es_star : "*" ++ "errors.errorString" = "*errors.errorString" := by decide
theorem es_row (u : TypeId) (h : Tryd.prog.typeName? 3 u = some "*errors.errorString") : u = 144 :=
  typeName_ptr_named (nm := "errors.errorString") (by rw [es_star]; kernel_rfl) (by kernel_rfl) (by decide) u (by rw [es_star]; exact h)
theorem var_lt {P : Program} {w : World} {n : String} {g : Nat} {cs : Array Value} (hg : P.globalNamed n = some g) (h : w.var? P n = some cs) : g < w.heap.size := by
  unfold World.var? at h
  rw [hg] at h
  simp only [Option.bind_some] at h
  rcases Nat.lt_or_ge g w.heap.size with h' | h'
  · exact h'
  · simp [Array.getElem?_eq_none h'] at h
theorem kitTabs_tabs {W : World} (h : laidMetH Tryd.prog kitTabs W) : Tabs W := by
  rw [MakeChecks.laidMetH_plain _ _ _ (by kernel_rfl)] at h
  have h3 := laidMet.tail (laidMet.tail h)
  have ht : Tab W := Lib.tabIs_of_head tab_at tab_type Tryd.underlying137 Tryd.underlying121 tab_cell tab_cells h3
  obtain ⟨a0, s0, hv0, -, -, -⟩ := laid_sentinel (laidMet.tail h3) rng_at rng_type Tryd.underlying77 es_row Tryd.underlying144 Tryd.underlying146 rfl rfl Tryd.underlying9 cells_es cells_string
  obtain ⟨a1, s1, hv1, -, -, -⟩ := laid_sentinel (laidMet.tail (laidMet.tail h3)) syn_at syn_type Tryd.underlying77 es_row Tryd.underlying144 Tryd.underlying146 rfl rfl Tryd.underlying9 cells_es cells_string
  exact ⟨ht, ⟨_, _, hv1⟩, ⟨_, _, hv0⟩, var_lt syn_at hv1, var_lt rng_at hv0, Tab.lt ht⟩
theorem kitDoor (os : Os) (args : Array Value) : laidMetH Tryd.prog kitTabs ((World.doorLaid Tryd.prog 400 os).forCall (fun _ _ => 0) ⟨#[], args, []⟩).memory :=
  laidMetH_of_parts3 (fuel := 8) (laidMet_of_run' 8 (by kernel_rfl) (by kernel_rfl)) (by kernel_rfl) (by kernel_rfl)
end Go.Proofs.YtmdnmodjdgcmjaaDoor
