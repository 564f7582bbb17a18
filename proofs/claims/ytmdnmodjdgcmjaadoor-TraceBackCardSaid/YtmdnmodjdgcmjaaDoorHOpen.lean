/-
  Arguments that are opened: what every shape shares; and the row's last step for a call that leaves all old memory as it was.
-/
import Derived.ProofKit
import Derived.Deep.Slices
import Derived.OpenShut
import Derived.Test.YtmdnmodjdgcmjaaDoorHBas
namespace Go.Proofs.YtmdnmodjdgcmjaaDoor
open Go.ChangeShapes Go.WideShapes Go.ChangeAt Go.RowKit Go.Deep

theorem i64_of_wf {x : Int} (h : (Lit.int .i64 x).wf = true) : I64 x := by
  simpa [Lit.wf, IntKind.min, IntKind.max, IntKind.signed, IntKind.bits, I64] using h

theorem cells_int : Tryd.prog.cellsOf 3 = 1 := by kernel_rfl
theorem cells_string : Tryd.prog.cellsOf 9 = 1 := by kernel_rfl
theorem block_lt {w : World} {a : Addr} {v : Value} (h : w.cell? a = some v) : a.block < w.heap.size := by
  unfold World.cell? at h
  split at h
  · rename_i h1; exact (Array.getElem?_eq_some_iff.1 h1).1
  · cases h

/-- The row's last step where old memory is as it was. -/
theorem post_below {H : Type} {enc : TypeId × Value → H} {P : Program} {f : Func} {s : ChangeSpec} {apart fresh handsOn again : Bool} {W W' : World} {args : Array Value} {v : Value} {ds gs : List (DataW H)} {before : List MemPlace}
    (hW : DataW.Whole enc P f.params.toList s.vars apart W args.toList ds gs before)
    (hres : ∀ (b : Nat) (sp : Nat → Bool) (hd : Bool), DataW.TrodAll enc P W' b sp hd f.resultTypes.toList (v.resultList f.resultTypes.size) (s.fn H (ds ++ gs)).results [])
    (hargs : ∀ sp : Nat → Bool, (∀ p ∈ before, sp p.block = true) → DataW.TrodAll enc P W' 0 sp true f.params.toList args.toList (s.fn H (ds ++ gs)).args before)
    (hvars : ∀ sp : Nat → Bool, DataW.TrodVars enc P W' sp s.vars (s.fn H (ds ++ gs)).vars [])
    (hb : Below W.heap.size W W')
    (hok : ∀ (j : Nat) (t : TypeId) (r : Value), f.resultTypes[j]? = some t → (v.resultList f.resultTypes.size)[j]? = some r → Value.okWide P W' .any 0 t r) :
    s.post enc P f apart fresh handsOn again W args v W' := by
  have hold : ∀ p ∈ before, (fun b => decide (b < W.heap.size)) p.block = true := fun p hp => by simpa using hW.lt p hp
  refine ⟨ds, gs, before, [], before, [], hW, hres _ _ _, hargs _ hold, hvars _, World.keptBut_mono (fun p hp => ⟨hp, .inr (by simpa using hp)⟩) (hb.frame (· ∈ before)), fun _ => ?_⟩
  have hlt : ∀ p ∈ before, p.block < W.heap.size := fun p hp => hW.lt p hp
  obtain ⟨_, _, _, _, _, hz, hn⟩ := hW
  refine ⟨hok, _, _, ([] ++ before) ++ [], ⟨[] ++ before, [], trodAll_append (hargs _ (fun _ _ => rfl)) (hres _ _ _), hvars _, rfl, ?_, ?_⟩, ?_⟩
  · intro b off hp
    have hin : MemPlace.cell b off ∈ before := by simpa using hp
    rw [hb.frozen (hlt _ hin)]
    exact hz b off hin
  · intro ha
    simpa using hn ha
  · intro p hp _
    simpa using hp

/-- Arguments that are read again in a world in which nothing old has turned. -/
theorem args_again {H : Type} {enc : TypeId × Value → H} {W W' : World} (hl : laidOutB Tryd.prog = true) (hb : Below W.heap.size W W') :
    ∀ {ts : List TypeId} {vs : List Value} {ds : List (DataW H)} {ps : List MemPlace}, (∀ t ∈ ts, Tryd.prog.readableRec t = true ∧ t < Tryd.prog.types.size) →
      DataW.TrodAll enc Tryd.prog W 0 (fun _ => true) true ts vs ds ps → (∀ p ∈ ps, p.block < W.heap.size) → ∀ sp : Nat → Bool, (∀ p ∈ ps, sp p.block = true) → DataW.TrodAll enc Tryd.prog W' 0 sp true ts vs ds ps
  | [], [], [], _, _, h, _, _, _ => h
  | _ :: _, _ :: _, _ :: _, _, ht, ⟨p, q, h1, h2, e⟩, hlt, sp, hsp =>
    ⟨p, q, WideElems.Trod_stays hl (ht _ (by simp)).1 (ht _ (by simp)).2 h1 (fun x hx => hb.same (hlt x (by rw [e]; exact List.mem_append_left _ hx))) (fun x hx => hsp x (by rw [e]; exact List.mem_append_left _ hx)),
      args_again hl hb (fun t h => ht t (List.mem_cons_of_mem _ h)) h2 (fun x hx => hlt x (by rw [e]; exact List.mem_append_right _ hx)) sp (fun x hx => hsp x (by rw [e]; exact List.mem_append_right _ hx)), e⟩
theorem cells_bool : Tryd.prog.cellsOf 4 = 1 := by kernel_rfl
section
variable {H : Type} {enc : TypeId × Value → H} {w : World} {base : Nat} {spare : Nat → Bool} {held : Bool}
/-- a slice whose elements open, opened -/
theorem open_sl {α : Type} [Inhabited α] (Q : List Value → α → Prop) {T E : TypeId} {sz : Nat} (ht : Tryd.prog.underlying T = some (.slice E)) (hc : Tryd.prog.cellsOf E = sz) (hsz : 0 < sz)
    (hQ : ∀ fuel cs x, DataW.trod enc Tryd.prog w base spare held fuel E cs = some x → ∃ y, Q cs y) {fuel : Nat} {cs : List Value} {x : DataW H × List MemPlace} (h : DataW.trod enc Tryd.prog w base spare held fuel T cs = some x) :
    ∃ (S : Sl) (xs : List α), cs = [S.v xs.length] ∧ S.fits xs.length ∧ SlAt sz (fun b o y => b < w.heap.size ∧ ∃ es : List Value, es.length = sz ∧ Q es y ∧ ∀ i, i < sz → w.cell? ⟨b, o + i, none⟩ = es[i]?) S.A xs := by
  rcases DataW.trod_slice ht h with ⟨h0, _⟩ | ⟨a, len, cap, elems, rest, n2, _, h0, _, _, hlc, hcm, hll, hel, _⟩
  · exact ⟨⟨none, 0⟩, [], h0, ⟨Nat.le_refl _, Nat.zero_le _⟩, fun j hj => absurd hj (Nat.not_lt_zero _)⟩
  · rw [hc] at hel
    have hspot : 0 < len → a.spot = none := fun h0 => by
      have h1 := hel 0 h0
      rw [List.getElem?_eq_getElem (by omega)] at h1
      obtain ⟨es, hcs, htr⟩ := Option.bind_eq_some_iff.1 h1
      obtain ⟨_, hlen, hcell⟩ := World.cells?_some hcs
      have c0 := hcell 0 hsz
      rw [List.getElem?_eq_getElem (by omega)] at c0
      simpa [Addr.add] using World.cell?_spot c0
    have hch : ∀ i, i < len → ∃ y : α, a.spot = none ∧ a.block < w.heap.size ∧ ∃ es : List Value, es.length = sz ∧ Q es y ∧ ∀ k, k < sz → w.cell? ((a.add (i * sz)).add k) = es[k]? := fun i hi => by
      have h1 := hel i hi
      rw [List.getElem?_eq_getElem (by omega)] at h1
      obtain ⟨es, hcs, htr⟩ := Option.bind_eq_some_iff.1 h1
      obtain ⟨_, hlen, hcell⟩ := World.cells?_some hcs
      obtain ⟨y, hy⟩ := hQ n2 es _ htr
      have c0 := hcell 0 hsz
      rw [List.getElem?_eq_getElem (by omega)] at c0
      have hbl := block_lt c0
      have h0 : a.spot = none := hspot (by omega)
      obtain ⟨ab, ao, sp⟩ := a
      simp only at h0; subst h0
      rw [Go.WideShapes.add_plain, Go.WideShapes.add_plain] at hbl
      exact ⟨y, rfl, hbl, es, hlen, hy, hcell⟩
    obtain ⟨f, hf⟩ := choose_lt (α := α) hch
    refine ⟨⟨some a, cap⟩, (List.range len).map f, by rw [h0]; simp [Sl.v], by simpa [Sl.fits] using ⟨hlc, hcm⟩, fun j hj => ?_⟩
    have hj' : j < len := by simpa using hj
    obtain ⟨h1, h2, es, h3, h4, h5⟩ := hf j hj'
    obtain ⟨ab, ao, sp⟩ := a
    simp only at h1 h2; subst h1
    refine ⟨ab, ao, rfl, h2, es, h3, by simpa using h4, fun i hi => ?_⟩
    rw [← h5 i hi, Go.WideShapes.add_plain, Go.WideShapes.add_plain]

theorem open_str {fuel : Nat} {cs : List Value} {x : DataW H × List MemPlace} (h : DataW.trod enc Tryd.prog w base spare held fuel 9 cs = some x) : ∃ y : ByteArray, cs = [.string y] ∧ y.size ≤ maxLen := by
  obtain ⟨s, h1, _, h2⟩ := DataW.trod_string Tryd.underlying9 h
  exact ⟨s, h1, h2⟩
end
end Go.Proofs.YtmdnmodjdgcmjaaDoor
