/-
  The walk of the statement ShowPlaces.
-/
import Derived.Test.YtnlikhjmmnaknaaDoorHLawPlaces
import Derived.Deep.AppendLies
namespace Go.Proofs.YtnlikhjmmnaknaaDoor
open Go.RowKit

theorem set_size (w : World) (p : Addr) (v : Value) : (w.setCell p v).heap.size = w.heap.size := by simp [World.setCell]

set_option maxRecDepth 100000 in
set_option maxHeartbeats 16000000 in
theorem showPlaces_any (s : List NodeE) (S : Sl) (pl pc : Int) (w : World) (hs : SrcIs w.heap.size w s S) (hpl : I64 pl) (hpc : I64 pc) (hT : Tab w) :
    Calls Tryd.prog 5 #[srcVal s S, .agg #[.int .i64 pl, .int .i64 pc]] w fun r w' => r = .returned (.bool true) ∧ Below w.heap.size w w' := by
  obtain ⟨A, cap⟩ := S
  obtain ⟨i0, hi0, hz0, hz1, hz2⟩ := info_parts Eq.info
  obtain ⟨i1, hi1, hy0, hy1, hy2⟩ := info_parts Node.info
  have hG := hT.lt
  have hbw : Below w.heap.size w ((w.alloc (.cells #[.slice A s.length cap] 38)).alloc (.cells #[.int .i64 pl, .int .i64 pc] 24)) := ((Below.refl _ _).alloc (Nat.le_refl _) _).alloc (by simp) _
  have hzw : w.heap.size + 1 < ((w.alloc (.cells #[.slice A s.length cap] 38)).alloc (.cells #[.int .i64 pl, .int .i64 pc] 24)).heap.size := by simp
  have hX0 : ((w.alloc (.cells #[.slice A s.length cap] 38)).alloc (.cells #[.int .i64 pl, .int .i64 pc] 24)).heap[w.heap.size]? = some (.cells #[.slice A s.length cap] 38 (0, 0)) := (Below.heap_alloc _ _ _ (by simp)).trans (World.alloc_heap_new w _)
  have hX1 : ((w.alloc (.cells #[.slice A s.length cap] 38)).alloc (.cells #[.int .i64 pl, .int .i64 pc] 24)).heap[w.heap.size + 1]? = some (.cells #[.int .i64 pl, .int .i64 pc] 24 (0, 0)) := by
    have := World.alloc_heap_new (w.alloc (.cells #[.slice A s.length cap] 38)) (.cells #[.int .i64 pl, .int .i64 pc] 24)
    rwa [World.size_alloc] at this
  have haw := awake13_any ((w.alloc (.cells #[.slice A s.length cap] 38)).alloc (.cells #[.int .i64 pl, .int .i64 pc] 24)) (hT.below hbw hG)
  have hfn := fun W (h : Below w.heap.size w W) => fewNodes_len s ⟨A, cap⟩ w.heap.size W (hs.keep (same_below (Nat.le_refl _) h)) h.size
  have hsh := fun (hf : ∀ n ∈ s, n.few) W (h : Below w.heap.size w W) => showSource_any s ⟨A, cap⟩ w.heap.size W (hs.keep (same_below (Nat.le_refl _) h)) h.size (hT.below h hG) (fun n hn q hq => Nat.le_trans ((hf n hn).2.2.2.2 q hq).2.1 (by omega)) (fun hb => Nat.le_trans (src_len hs hb fun n hn q hq => Nat.le_trans ((hf n hn).2.2.2.2 q hq).1 (by omega)) (by omega))
  have hsl := fun (hf : ∀ n ∈ s, n.few) (hb : srcB s = true) => src_len hs hb fun n hn q hq => Nat.le_trans ((hf n hn).2.2.2.2 q hq).1 (by omega)
  have hcl : ((s.length : Nat) : Int) ≤ 9223372036854775807 := by have := hs.fits; unfold Sl.fits maxLen at this; omega
  unfold srcVal Sl.v at hfn hsh ⊢
  have HAW := hid haw
  have HFN := hid hfn
  have HSH := hid hsh
  have HSL := hid hsl
  have HSS := hid hs
  clear haw hfn hsh hsl hs
  go_enter Tryd.func5, Tryd.ntmps5
  go_wp2_with fail
  refine HAW.out.mono ?_
  rintro r w1 ⟨rfl, hb1⟩
  have hX01 := (hb1.block w.heap.size (heap_lt hX0)).trans hX0
  have hX11 := (hb1.block (w.heap.size + 1) (heap_lt hX1)).trans hX1
  have hb1' := hbw.trans (hb1.mono (by omega))
  have c0 : w1.cell? ⟨w.heap.size, 0, none⟩ = some (.slice A s.length cap) := Lib.cell_of_heap hX01 0
  go_wp2_with fail
  refine (HFN.out w1 hb1').mono ?_
  rintro r w2 ⟨few, rfl, hfew, hb2⟩
  have hX02 := (hb2.block w.heap.size (heap_lt hX01)).trans hX01
  have hX12 := (hb2.block (w.heap.size + 1) (heap_lt hX11)).trans hX11
  have hb2' := hb1'.trans (hb2.mono hb1'.size)
  clear c0 hX0 hX1 hX01 hX11 hbw hzw hb1 hb1' hb2
  cases few with
  | false =>
    clear hfew
    go_wp2_with fail
    go_ret
    exact ⟨rfl, hb2'⟩
  | true =>
    have hfw := hfew rfl
    have hf : ∀ n ∈ s, n.few := fun n hn => (hfw.1 n hn).1
    have hl60 : ∀ j (h : j < s.length), s[j].eqs.length ≤ 60 := fun j h => (hfw.1 _ (List.getElem_mem h)).2
    have hl20 : s.length ≤ 20 := hfw.2
    have HF := hid hf
    have HL60 := hid hl60
    clear hfew hfw hf hl60
    have hlt2 : w.heap.size + 1 < w2.heap.size := heap_lt hX12
    have hM0 : (w2.alloc (.cells #[.slice none 0 0] 38)).heap[w2.heap.size]? = some (.cells #[.slice none 0 0] 38 (0, 0)) := World.alloc_heap_new w2 _
    have hbW : Below w2.heap.size w2 (w2.alloc (.cells #[.slice none 0 0] 38)) := (Below.refl _ _).alloc (Nat.le_refl _) _
    have hX03 := (hbW.block w.heap.size (by omega)).trans hX02
    have hX13 := (hbW.block (w.heap.size + 1) (by omega)).trans hX12
    have hb3 := hb2'.trans (hbW.mono (by omega))
    have c0 : (w2.alloc (.cells #[.slice none 0 0] 38)).cell? ⟨w.heap.size, 0, none⟩ = some (.slice A s.length cap) := Lib.cell_of_heap hX03 0
    go_wp2_with fail
    clear c0 hX02 hX12 hb2' hbW
    generalize w2.alloc (.cells #[.slice none 0 0] 38) = W at *
    obtain ⟨mb, hmb⟩ : ∃ mb, mb = w2.heap.size := ⟨_, rfl⟩
    rw [← hmb] at hM0 hlt2 ⊢
    have hown0 : W.ownsRow (mb + 1) 46 7 (.slice none 0 0) 0 ([].flatMap LNode.cells) := World.ownsRow_nil _ _ _ _
    have hmW : mb < W.heap.size := heap_lt hM0
    have HMB := hid hmb
    clear hmb
    go_loopw [7, 8, 10, 23] (fun _ _ _ i wr => ∃ (j : Nat) (zs : List LNode) (MA : Option Addr) (mc : Nat), j ≤ s.length ∧ i = .int .i64 j ∧ Hid (zs.length = j) ∧ Hid (zs.map (·.n) = (s.take j).map (mvN pl pc)) ∧ wr.ownsRow (mb + 1) 46 7 (.slice MA j mc) j (zs.flatMap LNode.cells) ∧ (∀ z ∈ zs, MvAt w.heap.size wr z) ∧ Below mb W wr ∧ wr.heap[mb]? = some (.cells #[.slice MA j mc] 38 (0, 0))) (fun _ _ _ i _ => s.length - (intOf i).toNat)
    case atStart => exact ⟨0, [], none, 0, by omega, rfl, hid rfl, hid rfl, hown0, fun z hz => absurd hz (by simp), Below.refl _ _, hM0⟩
    case round =>
      clear hM0 hown0
      obtain ⟨j, zs, MA, mc, hj, rfl, HZL, HZM, hown, hmv, hbr, hM⟩ := hrel
      have HMV := hid hmv
      clear hmv
      have hbwr := hb3.trans (hbr.mono (by omega))
      have hzr := hbr.size
      have hX1r := (hbr.block (w.heap.size + 1) (by omega)).trans hX13
      have hk1 := heap_lt hX1r
      have a0 : wr.cell? ⟨w.heap.size + 1, 0, none⟩ = some (.int .i64 pl) := Lib.cell_of_heap hX1r 0
      have a1 : wr.cell? ⟨w.heap.size + 1, 1, none⟩ = some (.int .i64 pc) := Lib.cell_of_heap hX1r 1
      by_cases hlt : j < s.length
      · obtain ⟨b', o, hA, hb', NS, hcells, hin⟩ := HSS.out.nodes j hlt
        simp only at hA
        subst hA
        obtain ⟨⟨iA, ic⟩, ⟨oA, oc⟩, ⟨vA, vc⟩, ⟨eA, ec⟩⟩ := NS
        have hcells := hcells.keep (w' := wr) fun i => hbwr.cell (p := ⟨b', i, none⟩) hb'
        obtain ⟨c0, c1, c2, c3, c4, c5, c6⟩ := hcells
        unfold Sl.v at c1 c2 c3 c4
        simp only at c1 c2 c3 c4
        have hq60 := HL60.out j hlt
        have hYn : (wr.alloc (.cells #[.string s[j].name, .slice iA s[j].ins.length ic, .slice oA s[j].outs.length oc, .slice vA s[j].vars.length vc, .slice eA s[j].eqs.length ec, .int .i64 pl, .int .i64 pc] 46)).heap[wr.heap.size]? = some (.cells #[.string s[j].name, .slice iA s[j].ins.length ic, .slice oA s[j].outs.length oc, .slice vA s[j].vars.length vc, .slice eA s[j].eqs.length ec, .int .i64 pl, .int .i64 pc] 46 (0, 0)) := World.alloc_heap_new wr _
        have hbn : Below wr.heap.size wr (wr.alloc (.cells #[.string s[j].name, .slice iA s[j].ins.length ic, .slice oA s[j].outs.length oc, .slice vA s[j].vars.length vc, .slice eA s[j].eqs.length ec, .int .i64 pl, .int .i64 pc] 46)) := (Below.refl _ _).alloc (Nat.le_refl _) _
        have HIN := hid hin
        clear hin
        go_wp2_with fail
        clear c0 c1 c2 c3 c4 c5 c6 a0 a1
        generalize hWng : wr.alloc (.cells #[.string s[j].name, .slice iA s[j].ins.length ic, .slice oA s[j].outs.length oc, .slice vA s[j].vars.length vc, .slice eA s[j].eqs.length ec, .int .i64 pl, .int .i64 pc] 46) = Wn at *
        have hzn : Wn.heap.size = wr.heap.size + 1 := by rw [← hWng]; simp
        have hownB : Wn.ownsRow (wr.heap.size + 1) 49 9 (.slice none 0 0) 0 ([].flatMap LEq.cells) := World.ownsRow_nil _ _ _ _
        have hznl : wr.heap.size + 1 ≤ Wn.heap.size := by omega
        have HWN := hid hWng
        clear hWng hzn
        obtain ⟨wo, rfl⟩ : ∃ wo : World, wo = wr := ⟨_, rfl⟩
        have hec : ((s[j].eqs.length : Nat) : Int) ≤ 60 := by omega
        go_loopw [8, 10, 32] (fun v _ i wq => ∃ (t : Nat) (ys : List LEq) (QA : Option Addr) (qc : Nat), t ≤ s[j].eqs.length ∧ i = .int .i64 t ∧ v = .slice QA t qc ∧ Hid (ys.length = t) ∧ Hid (ys.map (·.q) = (s[j].eqs.take t).map (mvQ pl pc)) ∧ wq.ownsRow (wo.heap.size + 1) 49 9 (.slice QA t qc) t (ys.flatMap LEq.cells) ∧ Hid (∀ y ∈ ys, EqIs w.heap.size w y.q y.S y.A y.cap) ∧ Below (wo.heap.size + 1) Wn wq) (fun _ _ i _ => s[j].eqs.length - (intOf i).toNat)
        case atStart => exact ⟨0, [], none, 0, by omega, rfl, rfl, hid rfl, hid rfl, hownB, fun y hy => absurd hy (by simp), Below.refl _ _⟩
        case round =>
          clear hownB
          obtain ⟨t, ys, QA, qc, ht, rfl, rfl, HYL, HYM, hownq, HYI, hbq⟩ := hrel
          have hzq := hbq.size
          have hbwn := hbn.trans (hbq.mono (by omega))
          have hbww := hbwr.trans (hbwn.mono (by omega))
          have hX1q := (hbwn.block (w.heap.size + 1) (by omega)).trans hX1r
          have a0 : wr.cell? ⟨w.heap.size + 1, 0, none⟩ = some (.int .i64 pl) := Lib.cell_of_heap hX1q 0
          have a1 : wr.cell? ⟨w.heap.size + 1, 1, none⟩ = some (.int .i64 pc) := Lib.cell_of_heap hX1q 1
          have hk1q : w.heap.size + 1 < wr.heap.size := by omega
          by_cases hltt : t < s[j].eqs.length
          · obtain ⟨b2, o2, hA2, hb2, QS, rA, rc, hqc, hqi⟩ := HIN.out.eqs t hltt
            simp only at hA2
            subst hA2
            obtain ⟨sA, sc⟩ := QS
            have hqc := hqc.keep (w' := wr) fun i => hbww.cell (p := ⟨b2, i, none⟩) hb2
            obtain ⟨c0, c1, c2, c3, c4, c5, c6, c7, c8⟩ := hqc
            unfold Sl.v at c0
            simp only at c0
            have hsl := setAt_line hqi.right pl pc
            have hyc : (LEq.mk (mvQ pl pc s[j].eqs[t]) ⟨sA, sc⟩ rA rc).cells = [.slice sA s[j].eqs[t].left.length sc, .int .i64 s[j].eqs[t].right.op, .string s[j].eqs[t].right.name, .int .i64 s[j].eqs[t].right.num, .slice rA s[j].eqs[t].right.k rc, .int .i64 pl, .int .i64 pc, .int .i64 pl, .int .i64 pc] := by
              unfold LEq.cells mvQ Sl.v
              simp only [setAt_op, setAt_name, setAt_num, setAt_k, hsl.1, hsl.2]
            have hyi : EqIs w.heap.size w (mvQ pl pc s[j].eqs[t]) ⟨sA, sc⟩ rA rc := ⟨hpl, hpc, hqi.fits, hqi.left, setAt_at hqi.right hpl hpc⟩
            have HYC := hid hyc
            have HYJ := hid hyi
            have hmt : (s[j].eqs.take (t + 1)).map (mvQ pl pc) = (s[j].eqs.take t).map (mvQ pl pc) ++ [mvQ pl pc s[j].eqs[t]] := by rw [List.take_succ_eq_append_getElem hltt, List.map_append]; rfl
            have HMT := hid hmt
            clear hsl hyc hyi hqi hmt
            have hownn := (hownq.alloc (.cells #[.slice sA s[j].eqs[t].left.length sc, .int .i64 s[j].eqs[t].right.op, .string s[j].eqs[t].right.name, .int .i64 s[j].eqs[t].right.num, .slice rA s[j].eqs[t].right.k rc, .int .i64 pl, .int .i64 pc, .int .i64 pl, .int .i64 pc] 49)).alloc (.cells #[.slice sA s[j].eqs[t].left.length sc, .int .i64 s[j].eqs[t].right.op, .string s[j].eqs[t].right.name, .int .i64 s[j].eqs[t].right.num, .slice rA s[j].eqs[t].right.k rc, .int .i64 pl, .int .i64 pc, .int .i64 pl, .int .i64 pc] 49)
            have hnw : ((wr.alloc (.cells #[.slice sA s[j].eqs[t].left.length sc, .int .i64 s[j].eqs[t].right.op, .string s[j].eqs[t].right.name, .int .i64 s[j].eqs[t].right.num, .slice rA s[j].eqs[t].right.k rc, .int .i64 pl, .int .i64 pc, .int .i64 pl, .int .i64 pc] 49)).alloc (.cells #[.slice sA s[j].eqs[t].left.length sc, .int .i64 s[j].eqs[t].right.op, .string s[j].eqs[t].right.name, .int .i64 s[j].eqs[t].right.num, .slice rA s[j].eqs[t].right.k rc, .int .i64 pl, .int .i64 pc, .int .i64 pl, .int .i64 pc] 49)).heap[wr.heap.size + 1]? = some (.cells #[.slice sA s[j].eqs[t].left.length sc, .int .i64 s[j].eqs[t].right.op, .string s[j].eqs[t].right.name, .int .i64 s[j].eqs[t].right.num, .slice rA s[j].eqs[t].right.k rc, .int .i64 pl, .int .i64 pc, .int .i64 pl, .int .i64 pc] 49 (0, 0)) := by
              have := World.alloc_heap_new (wr.alloc (.cells #[.slice sA s[j].eqs[t].left.length sc, .int .i64 s[j].eqs[t].right.op, .string s[j].eqs[t].right.name, .int .i64 s[j].eqs[t].right.num, .slice rA s[j].eqs[t].right.k rc, .int .i64 pl, .int .i64 pc, .int .i64 pl, .int .i64 pc] 49)) (.cells #[.slice sA s[j].eqs[t].left.length sc, .int .i64 s[j].eqs[t].right.op, .string s[j].eqs[t].right.name, .int .i64 s[j].eqs[t].right.num, .slice rA s[j].eqs[t].right.k rc, .int .i64 pl, .int .i64 pc, .int .i64 pl, .int .i64 pc] 49)
              rwa [World.size_alloc] at this
            have hone : ∀ u ∈ ([.slice sA s[j].eqs[t].left.length sc, .int .i64 s[j].eqs[t].right.op, .string s[j].eqs[t].right.name, .int .i64 s[j].eqs[t].right.num, .slice rA s[j].eqs[t].right.k rc, .int .i64 pl, .int .i64 pc, .int .i64 pl, .int .i64 pc] : List Value), u.oneCell' = true := by
              intro u hu
              simp only [List.mem_cons, List.not_mem_nil, or_false] at hu
              rcases hu with rfl | rfl | rfl | rfl | rfl | rfl | rfl | rfl | rfl <;> rfl
            have HONE := hid hone
            have HNW := hid (World.news_of_block hnw)
            clear hone hnw
            go_wp2_with (at_builtin; refine wpList_append_lies _ rfl _ _ _ rfl (wo.heap.size + 1) 49 i0 _ 9 112 Tryd.underlying44 hi0 hz0 hz1 hz2 rfl (by omega) _ _ _ (by rfl) hownn ⟨wr.heap.size + 1, 0, none⟩ 1 1 [.slice sA s[j].eqs[t].left.length sc, .int .i64 s[j].eqs[t].right.op, .string s[j].eqs[t].right.name, .int .i64 s[j].eqs[t].right.num, .slice rA s[j].eqs[t].right.k rc, .int .i64 pl, .int .i64 pc, .int .i64 pl, .int .i64 pc] (by rfl) (by rfl) HNW.out HONE.out (by omega) (by unfold maxLen; omega) (by omega) (by rw [World.size_alloc, World.size_alloc]; omega) _ rfl ?_; intro g3 cap3 w3 hown3 hgrow3 hat3 hlt3)
            have hbe : Below (wo.heap.size + 1) Wn w3 := ((hbq.alloc (by omega) _).alloc (by rw [World.size_alloc]; omega) _).grown hgrow3 (by rw [World.size_alloc, World.size_alloc]; omega) (fun k e => (hownq.lt k e).1)
            go_roundw
            case rel =>
              refine ⟨t + 1, ys ++ [⟨mvQ pl pc s[j].eqs[t], ⟨sA, sc⟩, rA, rc⟩], some ⟨g3, 0, none⟩, cap3, by omega, by go_num, rfl, ?_, ?_, ?_, ?_, hbe⟩
              · show (ys ++ [_]).length = t + 1
                rw [List.length_append, HYL.out]; rfl
              · show List.map _ (ys ++ [_]) = _
                rw [List.map_append, HYM.out, HMT.out]; rfl
              · rw [List.flatMap_append, List.flatMap_singleton, HYC.out]
                exact hown3
              · intro y hy
                rcases List.mem_append.1 hy with h | h
                · exact HYI.out y h
                · rw [List.mem_singleton.1 h]; exact HYJ.out
            case measure => simp [intOf]; omega
          · have hte : t = s[j].eqs.length := by omega
            subst hte
            have hYq := (hbq.block wo.heap.size (by omega)).trans hYn
            have y0 : wr.cell? ⟨wo.heap.size, 0, none⟩ = some (.string s[j].name) := Lib.cell_of_heap hYq 0
            have y4 : wr.cell? ⟨wo.heap.size, 4, none⟩ = some (.slice eA s[j].eqs.length ec) := Lib.cell_of_heap hYq 4
            have yf : wr.frozen? ⟨wo.heap.size, 4, none⟩ = false := Lib.frozen_of_heap hYq 4
            have hYs : (wr.setCell ⟨wo.heap.size, 4, none⟩ (.slice QA s[j].eqs.length qc)).heap[wo.heap.size]? = some (.cells #[.string s[j].name, .slice iA s[j].ins.length ic, .slice oA s[j].outs.length oc, .slice vA s[j].vars.length vc, .slice QA s[j].eqs.length qc, .int .i64 pl, .int .i64 pc] 46 (0, 0)) := blk_set hYq 4 _
            have hbs : Below wo.heap.size wo (wr.setCell ⟨wo.heap.size, 4, none⟩ (.slice QA s[j].eqs.length qc)) := hbwn.setCell (p := ⟨wo.heap.size, 4, none⟩) (Nat.le_refl _) _
            have hMs := (hbs.block mb (by omega)).trans hM
            have hxs : (wr.setCell ⟨wo.heap.size, 4, none⟩ (.slice QA s[j].eqs.length qc)).heap.size = wr.heap.size := set_size _ _ _
            have x0 : (wr.setCell ⟨wo.heap.size, 4, none⟩ (.slice QA s[j].eqs.length qc)).cell? ⟨wo.heap.size, 0, none⟩ = some (.string s[j].name) := Lib.cell_of_heap hYs 0
            have x1 : (wr.setCell ⟨wo.heap.size, 4, none⟩ (.slice QA s[j].eqs.length qc)).cell? ⟨wo.heap.size, 1, none⟩ = some (.slice iA s[j].ins.length ic) := Lib.cell_of_heap hYs 1
            have x2 : (wr.setCell ⟨wo.heap.size, 4, none⟩ (.slice QA s[j].eqs.length qc)).cell? ⟨wo.heap.size, 2, none⟩ = some (.slice oA s[j].outs.length oc) := Lib.cell_of_heap hYs 2
            have x3 : (wr.setCell ⟨wo.heap.size, 4, none⟩ (.slice QA s[j].eqs.length qc)).cell? ⟨wo.heap.size, 3, none⟩ = some (.slice vA s[j].vars.length vc) := Lib.cell_of_heap hYs 3
            have x4 : (wr.setCell ⟨wo.heap.size, 4, none⟩ (.slice QA s[j].eqs.length qc)).cell? ⟨wo.heap.size, 4, none⟩ = some (.slice QA s[j].eqs.length qc) := Lib.cell_of_heap hYs 4
            have x5 : (wr.setCell ⟨wo.heap.size, 4, none⟩ (.slice QA s[j].eqs.length qc)).cell? ⟨wo.heap.size, 5, none⟩ = some (.int .i64 pl) := Lib.cell_of_heap hYs 5
            have x6 : (wr.setCell ⟨wo.heap.size, 4, none⟩ (.slice QA s[j].eqs.length qc)).cell? ⟨wo.heap.size, 6, none⟩ = some (.int .i64 pc) := Lib.cell_of_heap hYs 6
            have m0 : (wr.setCell ⟨wo.heap.size, 4, none⟩ (.slice QA s[j].eqs.length qc)).cell? ⟨mb, 0, none⟩ = some (.slice MA j mc) := Lib.cell_of_heap hMs 0
            have hownS := (hown.kept (grown_of_below hbs) (by cases hv : (Value.slice MA j mc).ownBlock <;> simp)).alloc (.cells #[.string s[j].name, .slice iA s[j].ins.length ic, .slice oA s[j].outs.length oc, .slice vA s[j].vars.length vc, .slice QA s[j].eqs.length qc, .int .i64 pl, .int .i64 pc] 46)
            have hnw : ((wr.setCell ⟨wo.heap.size, 4, none⟩ (.slice QA s[j].eqs.length qc)).alloc (.cells #[.string s[j].name, .slice iA s[j].ins.length ic, .slice oA s[j].outs.length oc, .slice vA s[j].vars.length vc, .slice QA s[j].eqs.length qc, .int .i64 pl, .int .i64 pc] 46)).heap[wr.heap.size]? = some (.cells #[.string s[j].name, .slice iA s[j].ins.length ic, .slice oA s[j].outs.length oc, .slice vA s[j].vars.length vc, .slice QA s[j].eqs.length qc, .int .i64 pl, .int .i64 pc] 46 (0, 0)) := by
              have := World.alloc_heap_new (wr.setCell ⟨wo.heap.size, 4, none⟩ (.slice QA s[j].eqs.length qc)) (.cells #[.string s[j].name, .slice iA s[j].ins.length ic, .slice oA s[j].outs.length oc, .slice vA s[j].vars.length vc, .slice QA s[j].eqs.length qc, .int .i64 pl, .int .i64 pc] 46)
              rwa [hxs] at this
            have hone : ∀ u ∈ ([.string s[j].name, .slice iA s[j].ins.length ic, .slice oA s[j].outs.length oc, .slice vA s[j].vars.length vc, .slice QA s[j].eqs.length qc, .int .i64 pl, .int .i64 pc] : List Value), u.oneCell' = true := by
              intro u hu
              simp only [List.mem_cons, List.not_mem_nil, or_false] at hu
              rcases hu with rfl | rfl | rfl | rfl | rfl | rfl | rfl <;> rfl
            have hMa : ((wr.setCell ⟨wo.heap.size, 4, none⟩ (.slice QA s[j].eqs.length qc)).alloc (.cells #[.string s[j].name, .slice iA s[j].ins.length ic, .slice oA s[j].outs.length oc, .slice vA s[j].vars.length vc, .slice QA s[j].eqs.length qc, .int .i64 pl, .int .i64 pc] 46)).heap[mb]? = some (.cells #[.slice MA j mc] 38 (0, 0)) := (Below.heap_alloc _ _ _ (by rw [hxs]; omega)).trans hMs
            have hbA : Below wo.heap.size wo ((wr.setCell ⟨wo.heap.size, 4, none⟩ (.slice QA s[j].eqs.length qc)).alloc (.cells #[.string s[j].name, .slice iA s[j].ins.length ic, .slice oA s[j].outs.length oc, .slice vA s[j].vars.length vc, .slice QA s[j].eqs.length qc, .int .i64 pl, .int .i64 pc] 46)) := hbs.alloc (by rw [hxs]; omega) _
            have hyn : LNode.cells ⟨mvN pl pc s[j], ⟨⟨iA, ic⟩, ⟨oA, oc⟩, ⟨vA, vc⟩, ⟨QA, qc⟩⟩⟩ = [.string s[j].name, .slice iA s[j].ins.length ic, .slice oA s[j].outs.length oc, .slice vA s[j].vars.length vc, .slice QA s[j].eqs.length qc, .int .i64 pl, .int .i64 pc] := by
              unfold LNode.cells mvN Sl.v
              simp only [List.length_map]
            have hqm : ys.map (·.q) = s[j].eqs.map (mvQ pl pc) := by rw [HYM.out, List.take_length]
            have hmt : (s.take (j + 1)).map (mvN pl pc) = (s.take j).map (mvN pl pc) ++ [mvN pl pc s[j]] := by rw [List.take_succ_eq_append_getElem hlt, List.map_append]; rfl
            have hrow : EqRow w.heap.size wr ⟨QA, qc⟩ (s[j].eqs.map (mvQ pl pc)) := by
              rw [← hqm]
              have hyl := HYL.out
              have ho := hownq
              rw [← hyl] at ho
              exact own_eqrow ho fun y hy => (HYI.out y hy).keep (same_below (Nat.le_refl _) hbww)
            have HONE := hid hone
            have HNW := hid (World.news_of_block hnw)
            have HMA := hid hMa
            have HYN := hid hyn
            have HMT := hid hmt
            have HROW := hid hrow
            clear hone hnw hMa hyn hqm hmt hrow
            go_wp2_with (at_builtin; refine wpList_append_lies _ rfl _ _ _ rfl (mb + 1) 46 i1 _ 7 128 Tryd.underlying36 hi1 hy0 hy1 hy2 rfl (by omega) _ _ _ (by rfl) hownS ⟨wr.heap.size, 0, none⟩ 1 1 [.string s[j].name, .slice iA s[j].ins.length ic, .slice oA s[j].outs.length oc, .slice vA s[j].vars.length vc, .slice QA s[j].eqs.length qc, .int .i64 pl, .int .i64 pc] (by rfl) (by rfl) HNW.out HONE.out (by omega) (by unfold maxLen; omega) (by omega) (by rw [World.size_alloc, hxs]; omega) _ rfl ?_; intro g5 cap5 w5 hown5 hgrow5 hat5 hlt5; have hM5 := (hgrow5.block mb (heap_lt HMA.out) (row_type hownS HMA.out (by decide))).trans HMA.out; have n0 : w5.cell? ⟨mb, 0, none⟩ = some (.slice MA j mc) := Lib.cell_of_heap hM5 0; have nf : w5.frozen? ⟨mb, 0, none⟩ = false := Lib.frozen_of_heap hM5 0)
            have hbF5 : Below mb wo w5 := (hbA.mono (by omega)).grown hgrow5 (by rw [World.size_alloc, hxs]; omega) (fun k e => by have := (hownS.lt k e).1; omega)
            have hbF : Below mb wo (w5.setCell ⟨mb, 0, none⟩ (.slice (some ⟨g5, 0, none⟩) (j + 1) cap5)) := hbF5.setCell (p := ⟨mb, 0, none⟩) (Nat.le_refl _) _
            have hMF : (w5.setCell ⟨mb, 0, none⟩ (.slice (some ⟨g5, 0, none⟩) (j + 1) cap5)).heap[mb]? = some (.cells #[.slice (some ⟨g5, 0, none⟩) (j + 1) cap5] 38 (0, 0)) := blk_set hM5 0 _
            have hkA : EqKeep ((wr.setCell ⟨wo.heap.size, 4, none⟩ (.slice QA s[j].eqs.length qc)).alloc (.cells #[.string s[j].name, .slice iA s[j].ins.length ic, .slice oA s[j].outs.length oc, .slice vA s[j].vars.length vc, .slice QA s[j].eqs.length qc, .int .i64 pl, .int .i64 pc] 46)) (w5.setCell ⟨mb, 0, none⟩ (.slice (some ⟨g5, 0, none⟩) (j + 1) cap5)) := fun k cs fr hk => by
              have h1 := (hgrow5.block k (heap_lt hk) (row_type hownS hk (by decide))).trans hk
              refine (Below.heap_setCell _ _ _ _ (fun e => ?_)).trans h1
              subst e
              rw [hM5] at h1
              injection h1 with h1
              injection h1 with _ h2 _
              exact absurd h2 (by decide)
            have hkS : EqKeep wr (wr.setCell ⟨wo.heap.size, 4, none⟩ (.slice QA s[j].eqs.length qc)) := fun k cs fr hk => by
              refine (Below.heap_setCell _ _ _ _ (fun e => ?_)).trans hk
              subst e
              rw [hYq] at hk
              injection hk with hk
              injection hk with _ h2 _
              exact absurd h2 (by decide)
            have hkW : EqKeep (wr.setCell ⟨wo.heap.size, 4, none⟩ (.slice QA s[j].eqs.length qc)) ((wr.setCell ⟨wo.heap.size, 4, none⟩ (.slice QA s[j].eqs.length qc)).alloc (.cells #[.string s[j].name, .slice iA s[j].ins.length ic, .slice oA s[j].outs.length oc, .slice vA s[j].vars.length vc, .slice QA s[j].eqs.length qc, .int .i64 pl, .int .i64 pc] 46)) := EqKeep.of_below ((Below.refl _ _).alloc (Nat.le_refl _) _)
            have hkO : EqKeep wo (w5.setCell ⟨mb, 0, none⟩ (.slice (some ⟨g5, 0, none⟩) (j + 1) cap5)) := (EqKeep.of_below hbA).trans hkA
            have hkR : EqKeep wr (w5.setCell ⟨mb, 0, none⟩ (.slice (some ⟨g5, 0, none⟩) (j + 1) cap5)) := hkS.trans (hkW.trans hkA)
            have hbF0 : Below w.heap.size wo (w5.setCell ⟨mb, 0, none⟩ (.slice (some ⟨g5, 0, none⟩) (j + 1) cap5)) := hbF.mono (by omega)
            have hbFw : Below w.heap.size w (w5.setCell ⟨mb, 0, none⟩ (.slice (some ⟨g5, 0, none⟩) (j + 1) cap5)) := hbwr.trans hbF0
            have hbwrF : Below w.heap.size wr (w5.setCell ⟨mb, 0, none⟩ (.slice (some ⟨g5, 0, none⟩) (j + 1) cap5)) := ⟨hbF0.os.trans hbwn.os.symm, hbF0.tape.trans hbwn.tape.symm, hbF0.output.trans hbwn.output.symm, by rw [set_size]; have := hgrow5.size; rw [World.size_alloc, hxs] at this; omega, fun k hk => (hbF0.block k hk).trans (hbwn.block k (by omega)).symm⟩
            go_roundw
            case rel =>
              refine ⟨j + 1, zs ++ [⟨mvN pl pc s[j], ⟨⟨iA, ic⟩, ⟨oA, oc⟩, ⟨vA, vc⟩, ⟨QA, qc⟩⟩⟩], some ⟨g5, 0, none⟩, cap5, by omega, by go_num, ?_, ?_, ?_, ?_, hbr.trans hbF, hMF⟩
              · show (zs ++ [_]).length = j + 1
                rw [List.length_append, HZL.out]; rfl
              · show List.map _ (zs ++ [_]) = _
                rw [List.map_append, HZM.out, HMT.out]; rfl
              · rw [List.flatMap_append, List.flatMap_singleton, HYN.out]
                exact hown5.kept (chg_set w5 mb 0 _) (.inr (fun e => by have := (hown5.lt _ e).1; omega))
              · intro z hz
                rcases List.mem_append.1 hz with h | h
                · exact (HMV.out z h).keep hbF0 hkO
                · rw [List.mem_singleton.1 h]
                  have hs := same_below (Nat.le_refl _) hbFw
                  exact ⟨HIN.out.name, hpl, hpc, HIN.out.fi, HIN.out.fo, HIN.out.fv, HIN.out.ins.imp fun _ _ _ => VarAt.keep hs, HIN.out.outs.imp fun _ _ _ => VarAt.keep hs, HIN.out.vars.imp fun _ _ _ => VarAt.keep hs, HROW.out.keep hbwrF hkR⟩
            case measure => simp [intOf]; omega
      · have hje : j = s.length := by omega
        subst hje
        have hzl := HZL.out
        have hzm := HZM.out
        rw [List.take_length] at hzm
        have ho := hown
        rw [← hzl] at ho
        have hsrc := own_src ho HMV.out (by omega)
        rw [hzm] at hsrc
        have hX0r := (hbr.block w.heap.size (by omega)).trans hX03
        have x0 : wr.cell? ⟨w.heap.size, 0, none⟩ = some (.slice A s.length cap) := Lib.cell_of_heap hX0r 0
        have hmv2 := fun W (h : Below wr.heap.size wr W) => showSource_any (s.map (mvN pl pc)) ⟨MA, mc⟩ wr.heap.size W (hsrc.keep (same_below (Nat.le_refl _) h)) h.size ((hT.below hbwr hG).below (h.mono (by omega)) hG) (fun n hn q hq => by
          obtain ⟨n0, hn0, rfl⟩ := List.mem_map.1 hn
          obtain ⟨q0, hq0, rfl⟩ := List.mem_map.1 hq
          have := ((HF.out n0 hn0).2.2.2.2 q0 hq0).2.1
          show (q0.right.setAt pl pc).height ≤ 1000000
          rw [setAt_height]; omega) (fun hb => by rw [srcTxt_mv]; rw [srcB_mv] at hb; have := HSL.out HF.out hb; omega)
        rw [shown_mv] at hmv2
        unfold srcVal Sl.v at hmv2
        simp only [List.length_map] at hmv2
        have HM2 := hid hmv2
        clear hzl hzm ho hsrc hmv2 a0 a1
        go_wp2_with fail
        refine (HSH.out HF.out wr hbwr).mono ?_
        rintro r w6 ⟨rfl, hb6⟩
        have hM6 := (hb6.block mb (by omega)).trans hM
        have m0 : w6.cell? ⟨mb, 0, none⟩ = some (.slice MA s.length mc) := Lib.cell_of_heap hM6 0
        clear x0
        go_wp2_with fail
        refine (HM2.out w6 hb6).mono ?_
        rintro r w7 ⟨rfl, hb7⟩
        go_wp2_with fail
        go_ret
        exact ⟨rfl, (hbwr.trans (hb6.mono (by omega))).trans (hb7.mono (by have := hb6.size; omega))⟩
end Go.Proofs.YtnlikhjmmnaknaaDoor
