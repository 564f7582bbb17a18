/-
  The words of a text, ranged over: the iterator keeps the rest of the text in a block of its own.
-/
import Derived.RangeFuncNested
import Derived.RangeFuncBound
import Derived.RangeFuncCalls
import Derived.RangeFuncLeaves
import Derived.Shelf.Abstract
import Derived.OwnWalkIn
import Derived.TacticsInMore
import Derived.LoopNIn
import Derived.LoopIn
import Derived.Test.YtmdnmodjdgcmjaaDoorHTrV
namespace Go.Proofs.YtmdnmodjdgcmjaaDoor
open Go.RowKit Go.Shelf
attribute [local go_sem] Oper.semAt_some

/-- the cell of the library's limit of a search -/
def MxC (w : World) : Prop := ∃ m, w.cell? ⟨0, 0, none⟩ = some (.int .i64 m)
theorem MxC.below {w w' : World} (h : MxC w) (hb : Below w.heap.size w w') : MxC w' := by
  obtain ⟨m, hm⟩ := h
  exact ⟨m, (hb.cell (p := ⟨_, 0, none⟩) (cell_lt hm)).trans hm⟩
def boxLen (b : Nat) (w : World) : Nat := match w.cell? ⟨b, 0, none⟩ with
  | some (Value.string s) => s.size
  | _ => 0
def tru : Value → Nat
  | .bool true => 1
  | _ => 0
theorem str_ln (l : List UInt8) : (⟨l.toArray⟩ : ByteArray).size = l.length := by simp [ByteArray.size]
theorem box_len {b : Nat} {w : World} {s : ByteArray} (h : w.heap[b]? = some (.cells #[.string s] 9 (0, 0))) : boxLen b w = s.size := by
  unfold boxLen; rw [Lib.cell_of_heap h 0]; rfl

set_option maxRecDepth 100000 in
set_option maxHeartbeats 2000000 in
/-- the iterator -/
theorem words1_in (m l Bx : Nat) (s : List UInt8) (hs : s.length ≤ 100000) (J : List (List UInt8) → World → Prop) (Jx : World → Prop)
    (hM : ∀ pre W, J pre W → MxC W) (hb : ∀ pre W k v, J pre W → J pre ((W.drewN k).setCell ⟨Bx, 0, none⟩ v))
    (hY : ∀ n pre x rest W, splitS s = pre ++ x :: rest → J pre W → YieldAt Fence.wide n Tryd.prog l #[.string ⟨x.toArray⟩] W fun e W' =>
      (e = .returned (.bool true) ∧ J (pre ++ [x]) W' ∧ W'.heap[Bx]? = W.heap[Bx]?) ∨ (e = .returned (.bool false) ∧ Jx W'))
    (W : World) (hBx : W.heap[Bx]? = some (.cells #[.string ⟨s.toArray⟩] 9 (0, 0))) (h0 : J [] W) :
    CallsIn Fence.wide m Tryd.prog 69 #[.func (.yield l) #[] #[], .pointer (some ⟨Bx, 0, none⟩)] W fun e W' => (∃ v, e = .returned v) ∧ (J (splitS s) W' ∨ Jx W') := by
  have hdd : ∀ k : Nat, (Fence.wide.depth.isSome = true → 1 ≤ k) := fun k h => by cases h
  replace hM := hid hM
  replace hb := hid hb
  refine callsIn_of_wp Tryd.func69 rfl trivial ?_ rfl
  simp only [Tryd.ntmps69, List.size_toArray, List.length_cons, List.length_nil, Nat.reduceAdd, Nat.reduceSub, Array.replicate_succ, Array.replicate_zero, List.push_toArray, List.append_toArray, List.nil_append, List.cons_append]
  gi_wp2_with fail
  gi_loopw [3] (fun more wr => ∃ (b : Bool) (r : List UInt8) (pre : List (List UInt8)), more = .bool b ∧ wr.heap[Bx]? = some (.cells #[.string ⟨r.toArray⟩] 9 (0, 0)) ∧ J pre wr ∧ r.length ≤ s.length ∧ Hid (if b = true then splitS s = pre ++ splitS r else splitS s = pre)) (fun more wr => boxLen Bx wr + tru more)
  case atStart => exact ⟨true, s, [], rfl, hBx, h0, Nat.le_refl _, rfl⟩
  case round =>
    obtain ⟨b, r, pre, rfl, hbx, hJ, hrl, hsp⟩ := hrel
    have hc0 : wr.cell? ⟨Bx, 0, none⟩ = some (.string ⟨r.toArray⟩) := Lib.cell_of_heap hbx 0
    have hf0 : wr.frozen? ⟨Bx, 0, none⟩ = false := frozen_none hbx
    cases b with
    | false =>
      have hse := hsp.out
      rw [if_neg (by decide)] at hse
      gi_wp2
      go_end0
      exact ⟨⟨_, rfl⟩, .inl (by rw [hse]; exact hJ)⟩
    | true =>
      have hse := hsp.out
      rw [if_pos rfl] at hse
      obtain ⟨mx, hmx⟩ := hM.out pre wr hJ
      have hcut := hid (callsIn_wide (n := m - 1).2 (Tryd.strings_Cut ⟨r.toArray⟩ ⟨#[32]⟩ mx wr (by rw [str_ln]; omega) hmx))
      rw [show (⟨r.toArray⟩ : ByteArray).data.toList = r from rfl, show (⟨#[32]⟩ : ByteArray).data.toList = [32] from rfl] at hcut
      have hml := hid (box_len hbx)
      rcases cut_one r 32 with ⟨hc, hno⟩ | ⟨a, u, hr, hno, hc⟩
      · have hsr : splitS r = [r] := by unfold splitS; rw [split_one r [] hno]; rfl
        rw [hsr] at hse
        rw [hc] at hcut
        have hyl := fun k => hY (m - 1) pre r ([]) _ hse (hb.out pre wr k (.string ⟨#[]⟩) hJ)
        gi_wp2_with fail
        refine ⟨trivial, hdd _, ?_⟩
        refine hcut.out.mono ?_
        rintro e w1 ⟨rfl, k, rfl⟩
        dsimp only
        obtain ⟨fn, tmps, assign, body, hy, hR⟩ := hyl k
        have hbx2 : ((wr.drewN k).setCell ⟨Bx, 0, none⟩ (.string ⟨#[]⟩)).heap[Bx]? = some (.cells #[.string ⟨#[]⟩] 9 (0, 0)) := blk_set hbx 0 _
        have hc1 : (wr.drewN k).cell? ⟨Bx, 0, none⟩ = some (.string ⟨r.toArray⟩) := hc0
        have hf1 : (wr.drewN k).frozen? ⟨Bx, 0, none⟩ = false := hf0
        clear hyl hcut hc0 hf0
        gi_wp2_with ((try refine ⟨hdd _, ?_⟩); refine hR.mono ?_; clear hR)
        rintro e W2 (⟨rfl, hJ2, hb2⟩ | ⟨rfl, hx2⟩)
        · have hbx3 := hb2.trans hbx2
          gi_wp2
          go_roundw
          case rel => exact ⟨false, [], pre ++ [r], rfl, hbx3, hJ2, Nat.zero_le _, hid (by rw [if_neg (by decide)]; exact hse)⟩
          case measure =>
            have h1 := box_len hbx3
            rw [hml.out, h1, str_ln]
            simp [tru, ByteArray.size] <;> omega
        · gi_wp2
          refine bodyPost_ret (results_none rfl _ _ _) rfl ?_
          exact ⟨⟨_, rfl⟩, .inr hx2⟩
      · have hsr : splitS r = a :: splitS u := by rw [hr, split_word a u hno]
        rw [hsr] at hse
        rw [hc] at hcut
        have hul : r.length = a.length + u.length + 1 := by rw [hr]; simp; omega
        replace hr := hid hr
        have hyl := fun k => hY (m - 1) pre a (splitS u) _ hse (hb.out pre wr k (.string ⟨u.toArray⟩) hJ)
        gi_wp2_with fail
        refine ⟨trivial, hdd _, ?_⟩
        refine hcut.out.mono ?_
        rintro e w1 ⟨rfl, k, rfl⟩
        dsimp only
        obtain ⟨fn, tmps, assign, body, hy, hR⟩ := hyl k
        have hbx2 : ((wr.drewN k).setCell ⟨Bx, 0, none⟩ (.string ⟨u.toArray⟩)).heap[Bx]? = some (.cells #[.string ⟨u.toArray⟩] 9 (0, 0)) := blk_set hbx 0 _
        have hc1 : (wr.drewN k).cell? ⟨Bx, 0, none⟩ = some (.string ⟨r.toArray⟩) := hc0
        have hf1 : (wr.drewN k).frozen? ⟨Bx, 0, none⟩ = false := hf0
        clear hyl hcut hc0 hf0
        gi_wp2_with ((try refine ⟨hdd _, ?_⟩); refine hR.mono ?_; clear hR)
        rintro e W2 (⟨rfl, hJ2, hb2⟩ | ⟨rfl, hx2⟩)
        · have hbx3 := hb2.trans hbx2
          gi_wp2
          go_roundw
          case rel => exact ⟨true, u, pre ++ [a], rfl, hbx3, hJ2, by omega, hid (by rw [if_pos rfl, hse]; simp)⟩
          case measure =>
            have h1 := box_len hbx3
            rw [hml.out, h1, str_ln]
            simp [tru, ByteArray.size] <;> omega
        · gi_wp2
          refine bodyPost_ret (results_none rfl _ _ _) rfl ?_
          exact ⟨⟨_, rfl⟩, .inr hx2⟩

/-- the statement 'for w := range words(s)': I speaks of the record's block too -/
theorem range_words {n : Nat} {g : Operand} {p : Tmp} {assign body : Code} {Q : Exit → Act → World → Prop} {a : Act} {w : World} (s : List UInt8) (hs : s.length ≤ 100000) (Bx : Nat)
    (hg : a.eval g = .func (.func 69) #[] #[.pointer (some ⟨Bx, 0, none⟩)])
    (hBx : w.heap[Bx]? = some (.cells #[.string ⟨s.toArray⟩] 9 (0, 0)))
    (I : Obj → List (List UInt8) → World → Prop) (Ix : Obj → World → Prop)
    (hIr : ∀ o pre W, I o pre W → W.heap[w.heap.size + 1]? = some o ∧ W.heap[w.heap.size]? = some (.deferred (some [])) ∧ MxC W)
    (hXr : ∀ o W, Ix o W → W.heap[w.heap.size + 1]? = some o ∧ W.heap[w.heap.size]? = some (.deferred (some [])))
    (hIw : ∀ o o' pre W, I o pre W → I o' pre (W.putObj (w.heap.size + 1) o'))
    (hXw : ∀ o o' W, Ix o W → Ix o' (W.putObj (w.heap.size + 1) o'))
    (hIb : ∀ o pre W k v, I o pre W → I o pre ((W.drewN k).setCell ⟨Bx, 0, none⟩ v))
    (h0 : ∀ o, I o [] ((w.alloc (.deferred (some []))).alloc o))
    (a1 : List UInt8 → Act)
    (hassign : ∀ (l : Nat) (x : List UInt8) (m : Nat) (W : World) (K : Act → World → Prop), K (a1 x) W → assign.wpIn (Fence.wide.inRound l) m Tryd.prog (Exit.then K (fun _ _ _ => False)) { tmps := a.tmps.setIfInBounds p (.string ⟨x.toArray⟩), defers := [] } W)
    (hbody : ∀ (l m : Nat) (o : Obj) (pre : List (List UInt8)) (x : List UInt8) (rest : List (List UInt8)) (W : World), splitS s = pre ++ x :: rest → I o pre W →
      body.wpIn (Fence.wide.inRound l) m Tryd.prog (fun e _ W' => match e with
        | .normal => I o (pre ++ [x]) W' ∧ W'.heap[Bx]? = W.heap[Bx]?
        | .ret => Ix o W'
        | _ => False) (a1 x) W)
    (hdone : ∀ (o : Obj) (W : World), I o (splitS s) W → Q .normal { a with defers := { target := .collected w.heap.size, args := #[] } :: a.defers } W)
    (hstop : ∀ (o : Obj) (W : World), Ix o W → Code.ret.wpIn Fence.wide n Tryd.prog Q { a with defers := { target := .collected w.heap.size, args := #[] } :: a.defers } W) :
    (Code.rangeFunc g #[p] assign body).wpIn Fence.wide n Tryd.prog Q a w := by
  refine wpIn_rangeFunc ?_
  intro fn _
  obtain ⟨R, hR⟩ : ∃ R : LoopState → Option Code → Obj, R = fun st pe => .loop { state := st, pending := pe, fn, tmps := a.tmps, params := #[p], assign, body, defers := w.heap.size } := ⟨_, rfl⟩
  have hlt : w.heap.size < (w.alloc (.deferred (some []))).heap.size := by simp
  refine ⟨w.heap.size + 1, [{ target := .collected w.heap.size, args := #[] }], (w.alloc (.deferred (some []))).alloc (R .ready none), { target := .fn (.func 69) #[.pointer (some ⟨Bx, 0, none⟩)], args := #[.func (.yield (w.heap.size + 1)) #[] #[]] }, (w.alloc (.deferred (some []))).alloc (R .ready none), 69,
    #[.func (.yield (w.heap.size + 1)) #[] #[]] ++ #[.pointer (some ⟨Bx, 0, none⟩)], (w.alloc (.deferred (some []))).alloc (R .ready none), ?_, ?_, (fun _ _ => trivial), ?_, (fun h => by cases h), ?_⟩
  · rw [hR]; exact run_enterLoop_outer _ _ _ _ _
  · simp only [resolve, hg]
    simp [go_sem]
  · simp [invoke, go_sem]
  · have hlp : ∀ (st : LoopState) (pe : Option Code) (W : World), W.heap[w.heap.size + 1]? = some (R st pe) → W.heap[w.heap.size + 1]? = some (Obj.loop { state := st, pending := pe, fn, tmps := a.tmps, params := #[p], assign, body, defers := w.heap.size }) := fun st pe W h => by rw [h, hR]
    refine (words1_in (n - 1) (w.heap.size + 1) Bx s hs (fun pre W => I (R .ready none) pre W) (fun W => Ix (R .done (some .ret)) W)
      (fun pre W h => (hIr _ _ _ h).2.2) (fun pre W k v h => hIb _ _ _ k v h) ?_ _ ?_ (h0 _)).mono ?_
    · intro m pre x rest W hsp hi
      have hl := hlp _ _ W (hIr _ _ _ hi).1
      have hy := run_yield (P := Tryd.prog) (args := #[.string ⟨x.toArray⟩]) hl rfl
      simp only [List.zip_toArray, List.zip_cons_cons, List.zip_nil_right, List.foldl_toArray, List.foldl_cons, List.foldl_nil] at hy
      refine ⟨fn, a.tmps.setIfInBounds p (.string ⟨x.toArray⟩), assign, body, by simpa using hy, roundIn_of_wpIn trivial ?_⟩
      refine hassign _ x m W _ ?_
      refine ⟨_, run_beginRound hl rfl, ?_⟩
      have hi2 := hIw _ (R .busy none) pre W hi
      rw [show (Obj.loop { state := .busy, pending := none, fn, tmps := a.tmps, params := #[p], assign, body, defers := w.heap.size }) = R .busy none by rw [hR]]
      refine wpIn_mono (hbody _ m _ pre x rest _ hsp hi2) ?_
      have hbx : (W.putObj (w.heap.size + 1) (R .busy none)).heap[Bx]? = W.heap[Bx]? := World.putObj_heap_other (by have := (Array.getElem?_eq_some_iff.1 hBx).1; omega)
      intro e a3 W3 hp
      cases e with
      | normal =>
        obtain ⟨h1, h2⟩ := hp
        have hl3 := hlp _ _ W3 (hIr _ _ _ h1).1
        have hr := run_endRound (P := Tryd.prog) none hl3
        refine ⟨_, _, hr, .inl ⟨rfl, ?_, ?_⟩⟩
        · have := hIw _ (R .ready none) _ _ h1
          rw [hR] at this ⊢
          exact this
        · rw [World.putObj_heap_other (by have := (Array.getElem?_eq_some_iff.1 hBx).1; omega), h2, hbx]
      | ret =>
        have hl3 := hlp _ _ W3 (hXr _ _ hp).1
        have hr := run_endRound (P := Tryd.prog) (some .ret) hl3
        refine ⟨_, _, hr, .inr ⟨rfl, ?_⟩⟩
        have := hXw _ (R .done (some .ret)) _ hp
        rw [hR] at this ⊢
        exact this
      | exit id => exact hp.elim
      | goto t => exact hp.elim
      | panic ch => exact hp.elim
      | outgrown => exact hp.elim
    · rw [Below.heap_alloc _ _ _ (by have := (Array.getElem?_eq_some_iff.1 hBx).1; simp; omega), Below.heap_alloc _ _ _ (Array.getElem?_eq_some_iff.1 hBx).1]
      exact hBx
    · rintro e W2 ⟨⟨v, rfl⟩, hi | hx⟩
      · have hl3 := hlp _ _ W2 (hIr _ _ _ hi).1
        have hr := run_endLoop (P := Tryd.prog) hl3 (by simp)
        exact ⟨none, _, hr, hdone _ _ (hIw _ _ _ _ hi)⟩
      · have hl3 := hlp _ _ W2 (hXr _ _ hx).1
        have hr := run_endLoop (P := Tryd.prog) hl3 (by simp)
        exact ⟨some .ret, _, hr, hstop _ _ (hXw _ _ _ hx)⟩
end Go.Proofs.YtmdnmodjdgcmjaaDoor
