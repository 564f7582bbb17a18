/-
  The walk of the statement ParseBack.
-/
import Derived.Test.YtnlikhjmmnaknaaGreatDoorHShownBack
import Derived.Test.YtnlikhjmmnaknaaGreatDoorHLawShowS
import Derived.Test.YtnlikhjmmnaknaaGreatDoorHLawShow
import Derived.Test.YtnlikhjmmnaknaaGreatDoorHOutS
import Derived.Test.YtnlikhjmmnaknaaGreatDoorHOutE
import Derived.Test.YtnlikhjmmnaknaaGreatDoorHRtT
import Derived.Test.YtnlikhjmmnaknaaGreatDoorHRtS
import Derived.Test.YtnlikhjmmnaknaaGreatDoorHCardKit
import Derived.Test.YtnlikhjmmnaknaaGreatDoorGW
import Derived.Test.YtnlikhjmmnaknaaGreatDoorGF
namespace Go.Proofs.YtnlikhjmmnaknaaGreatDoor
open Go.RowKit

theorem outOf_ok {s : ByteArray} {e : Ex} {i : Nat} (h : parseOf s = .ok e i) : outOf s = (e, 0, 0, 0) := by unfold outOf; rw [h]
theorem outS_ok {s : ByteArray} {xs : List NodeE} {i : Nat} (h : sourceOf s = (xs, .ok i)) : outS s = (xs, 0, 0, 0) := by unfold outS; rw [h]
/-- what the reading of an expression ends in -/
def OutE (e : Ex) (er ln cl : Int) (w : World) (r : Ending) (w' : World) : Prop := Below w.heap.size w w' ∧ ∃ A c, r = .returned (.tuple #[e.val A c, .agg #[.int .i64 er, .int .i64 ln, .int .i64 cl]]) ∧ ExAt w'.heap.size w' e A c
def OutS (xs : List NodeE) (er ln cl : Int) (w : World) (r : Ending) (w' : World) : Prop := Below w.heap.size w w' ∧ ∃ A c, r = .returned (.tuple #[.agg #[.slice A xs.length c], .agg #[.int .i64 er, .int .i64 ln, .int .i64 cl]]) ∧ SrcIs w'.heap.size w' xs ⟨A, c⟩
theorem read_ex {s : ByteArray} {e : Ex} {i : Nat} (hs : s.size ≤ maxLen) (h : parseOf s = .ok e i) (w : World) : Calls Tryz.prog 16 #[.string s] w (OutE e 0 0 0 w) :=
  (parse_any s w hs).mono fun r w' hp => by have := out_post hp; rw [outOf_ok h] at this; exact this
theorem read_src {s : ByteArray} {xs : List NodeE} {i : Nat} (hs : s.size ≤ maxLen) (h : sourceOf s = (xs, .ok i)) (w : World) : Calls Tryz.prog 6 #[.string s] w (OutS xs 0 0 0 w) :=
  (psource_any s w hs).mono fun r w' hp => by have := outS_post hp; rw [outS_ok h] at this; exact this

set_option maxRecDepth 100000 in
set_option maxHeartbeats 8000000 in
theorem parseBack_any (xs : List NodeE) (S : Sl) (e : Ex) (Q : Option Addr) (qc : Nat) (w : World) (hs : SrcIs w.heap.size w xs S) (hE : ExAt w.heap.size w e Q qc) (hT : Tab w) :
    Calls Tryz.prog 4 #[srcVal xs S, e.val Q qc] w fun r w' => r = .returned (.bool true) ∧ Below w.heap.size w w' := by
  obtain ⟨A, cap⟩ := S
  have hG := hT.lt
  have hfn := fun W (h : Below w.heap.size w W) => fewNodes_any xs ⟨A, cap⟩ w.heap.size W (hs.keep (same_below (Nat.le_refl _) h)) h.size
  have hfe := fun W (h : Below w.heap.size w W) => few_any e w.heap.size Q qc W (hE.below (Nat.le_refl _) h) h.size
  have hse := fun (hf : e.few = true) W (h : Below w.heap.size w W) => showExpr_any e w.heap.size Q qc W (hE.below (Nat.le_refl _) h) h.size (hT.below h hG) (by have := Ex.few_fits hf; omega) (fun hr => by have := txt_len hE (ok_of_right hE hr) 0; have := Ex.few_fits hf; omega)
  have hss := fun (hf : ∀ n ∈ xs, n.few) W (h : Below w.heap.size w W) => showSource_any xs ⟨A, cap⟩ w.heap.size W (hs.keep (same_below (Nat.le_refl _) h)) h.size (hT.below h hG) (fun n hn q hq => Nat.le_trans ((hf n hn).2.2.2.2 q hq).2.1 (by omega)) (fun hb => Nat.le_trans (src_len hs hb fun n hn q hq => Nat.le_trans ((hf n hn).2.2.2.2 q hq).1 (by omega)) (by omega))
  have hsm := fun (e' : Ex) (A' : Option Addr) (c' : Nat) W (h : Below w.heap.size w W) (h' : ExAt W.heap.size W e' A' c') => rsame_any e' e W.heap.size A' Q c' qc W h' ((hE.below (Nat.le_refl _) h).more h.size _ _ _) (Nat.le_refl _)
  have heq := fun (zs : List NodeE) (A' : Option Addr) (c' : Nat) W (h : Below w.heap.size w W) (h' : SrcIs W.heap.size W zs ⟨A', c'⟩) => requal_any zs xs ⟨A', c'⟩ ⟨A, cap⟩ W.heap.size W h' ((hs.keep (same_below (Nat.le_refl _) h)).more h.size) (Nat.le_refl _)
  have hbE := shown_back hE
  have hbS := shownS_back hs
  unfold srcVal Sl.v at hfn hss heq ⊢
  unfold FewP at hfn
  simp only [Ex.val] at hfe hse hsm ⊢
  replace hfn := hid hfn
  replace hfe := hid hfe
  replace hse := hid hse
  replace hss := hid hss
  replace hsm := hid hsm
  replace heq := hid heq
  clear hs hE hT hG
  go_enter Tryz.func4, Tryz.ntmps4
  have f_0 := Fr.start0 w
  go_wp2_with fail
  have f_1 := f_0.alloc (.cells #[.slice A xs.length cap] 25)
  have z_1 := alloc_size w (.cells #[.slice A xs.length cap] 25)
  generalize w.alloc (.cells #[.slice A xs.length cap] 25) = W1 at *
  have f_2 := f_1.alloc (.cells #[.int .i64 e.op, .string e.name, .int .i64 e.num, .slice Q e.k qc, .int .i64 e.line, .int .i64 e.col] 41)
  clear f_0 f_1
  generalize W1.heap.size = Y at *
  rw [← z_1]
  clear z_1
  generalize W1.alloc (.cells #[.int .i64 e.op, .string e.name, .int .i64 e.num, .slice Q e.k qc, .int .i64 e.line, .int .i64 e.col] 41) = W2 at *
  refine (awake14_any _).mono ?_
  rintro r W3 ⟨rfl, hb⟩
  have f_3 := f_2.below hb
  clear f_2 hb
  obtain ⟨s0, -⟩ := blk1 f_3.rot1.blk
  go_wp2_with fail
  refine (hfn.out W3 f_3.low).mono ?_
  rintro r W4 ⟨q1, rfl, hq1, hb⟩
  have f_4 := f_3.below hb
  clear f_3 hb s0
  cases q1 with
  | false =>
    go_wp2_with fail
    go_ret
    exact ⟨rfl, f_4.low⟩
  | true =>
  replace hss := hid (hss.out (hq1 rfl))
  clear hq1
  obtain ⟨e0, e1, e2, e3, e4, e5, -⟩ := blk6 f_4.blk
  go_wp2_with fail
  refine (hfe.out W4 f_4.low).mono ?_
  rintro r W5 ⟨rfl, hb⟩
  have f_5 := f_4.below hb
  clear f_4 hb e0 e1 e2 e3 e4 e5
  cases hf : e.few with
  | false =>
    go_wp2_with fail
    go_ret
    exact ⟨rfl, f_5.low⟩
  | true =>
  replace hse := hid (hse.out hf)
  clear hf hfe hfn
  obtain ⟨e0, e1, e2, e3, e4, e5, -⟩ := blk6 f_5.blk
  go_wp2_with fail
  refine (hse.out W5 f_5.low).mono ?_
  rintro r W6 ⟨rfl, hb⟩
  have f_6 := f_5.below hb
  clear f_5 hb e0 e1 e2 e3 e4 e5 hse
  generalize shown e = sh at *
  generalize shownS xs = shS at *
  rcases hbE with ⟨t, rfl, ht, e', i, hj, hz⟩ | ⟨c, rfl, hc⟩
  · have hrs := fun W => read_ex (s := t) (by unfold maxLen; omega) hj W
    replace hrs := hid hrs
    clear hj
    go_wp2_with fail
    refine (hrs.out W6).mono ?_
    rintro r W7 ⟨hb, A', c', rfl, hin⟩
    have f_7 := f_6.below hb
    clear hb f_6
    simp only [Ex.val]
    go_upto_region 8 with fail
    have f_8 := f_7.alloc (.cells #[.int .i64 e'.op, .string e'.name, .int .i64 e'.num, .slice A' e'.k c', .int .i64 e'.line, .int .i64 e'.col] 41)
    have z_8 := alloc_size W7 (.cells #[.int .i64 e'.op, .string e'.name, .int .i64 e'.num, .slice A' e'.k c', .int .i64 e'.line, .int .i64 e'.col] 41)
    replace hin := hin.below (Nat.le_refl _) ((Below.refl W7.heap.size W7).alloc (Nat.le_refl _) (.cells #[.int .i64 e'.op, .string e'.name, .int .i64 e'.num, .slice A' e'.k c', .int .i64 e'.line, .int .i64 e'.col] 41))
    clear f_7
    generalize hX : W7.heap.size = X at *
    generalize W7.alloc (.cells #[.int .i64 e'.op, .string e'.name, .int .i64 e'.num, .slice A' e'.k c', .int .i64 e'.line, .int .i64 e'.col] 41) = W8 at *
    have f_9 := f_8.alloc (.cells #[.int .i64 0, .int .i64 0, .int .i64 0] 30)
    have z_9 := alloc_size W8 (.cells #[.int .i64 0, .int .i64 0, .int .i64 0] 30)
    replace hin := hin.below (by omega) ((Below.refl W8.heap.size W8).alloc (Nat.le_refl _) (.cells #[.int .i64 0, .int .i64 0, .int .i64 0] 30))
    clear f_8
    try rw [← z_8]
    replace z_8 := Nat.le_of_eq z_8.symm
    replace z_9 := Nat.le_of_eq z_9.symm
    generalize hF : W8.heap.size = F at *
    generalize W8.alloc (.cells #[.int .i64 0, .int .i64 0, .int .i64 0] 30) = W9 at *
    have hin := hin.more (show X ≤ W9.heap.size by omega) _ _ _
    have hcall := hsm.out e' A' c' W9 f_9.low hin
    rw [hz] at hcall
    replace hcall := hid hcall
    clear hin hz ht hsm
    obtain ⟨x0, x1, x2, x3, x4, x5, -⟩ := blk6 f_9.rot1.blk
    obtain ⟨y0, y1, y2, y3, y4, y5, -⟩ := blk6 f_9.rot2.blk
    obtain ⟨u0, u1, u2, -⟩ := blk3 f_9.blk
    clear hX hF z_8 z_9
    go_wp2_with fail
    refine hcall.out.mono ?_
    rintro r W10 ⟨rfl, hb⟩
    have f_10 := f_9.below hb
    clear hb f_9 x0 x1 x2 x3 x4 x5 y0 y1 y2 y3 y4 y5 u0 u1 u2 hcall
    skip
    obtain ⟨s0, -⟩ := blk1 (f_10.rot3).blk
    go_wp2_with fail
    refine (hss.out W10 (f_10.rot3).low).mono ?_
    rintro r W20 ⟨rfl, hb⟩
    have f_20 := (f_10.rot3).below hb
    clear hb s0 hss
    rcases hbS with ⟨t, rfl, ht, zs, j, hj, hz⟩ | ⟨c, rfl, hc⟩
    · have hrs := fun W => read_src (s := t) (by unfold maxLen; omega) hj W
      replace hrs := hid hrs
      clear hj
      go_wp2_with fail
      refine (hrs.out W20).mono ?_
      rintro r W21 ⟨hb, A', c', rfl, hin⟩
      have f_21 := f_20.below hb
      clear hb f_20
      go_upto_region 14 with fail
      have f_22 := f_21.alloc (.cells #[.slice A' zs.length c'] 25)
      have z_22 := alloc_size W21 (.cells #[.slice A' zs.length c'] 25)
      replace hin := hin.keep (same_below (Nat.le_refl _) ((Below.refl W21.heap.size W21).alloc (Nat.le_refl _) (.cells #[.slice A' zs.length c'] 25)))
      clear f_21
      generalize hX : W21.heap.size = X at *
      generalize W21.alloc (.cells #[.slice A' zs.length c'] 25) = W22 at *
      have f_23 := f_22.alloc (.cells #[.int .i64 0, .int .i64 0, .int .i64 0] 30)
      have z_23 := alloc_size W22 (.cells #[.int .i64 0, .int .i64 0, .int .i64 0] 30)
      replace hin := hin.keep (same_below (by omega) ((Below.refl W22.heap.size W22).alloc (Nat.le_refl _) (.cells #[.int .i64 0, .int .i64 0, .int .i64 0] 30)))
      clear f_22
      try rw [← z_22]
      replace z_22 := Nat.le_of_eq z_22.symm
      replace z_23 := Nat.le_of_eq z_23.symm
      generalize hF : W22.heap.size = F at *
      generalize W22.alloc (.cells #[.int .i64 0, .int .i64 0, .int .i64 0] 30) = W23 at *
      have hin := hin.more (show X ≤ W23.heap.size by omega)
      have hcall := heq.out zs A' c' W23 f_23.low hin
      rw [hz] at hcall
      replace hcall := hid hcall
      clear hin heq hz
      obtain ⟨x0, -⟩ := blk1 f_23.rot1.blk
      obtain ⟨y0, -⟩ := blk1 (f_23.rot2).blk
      obtain ⟨u0, u1, u2, -⟩ := blk3 f_23.blk
      clear hX hF z_22 z_23
      go_wp2_with fail
      refine hcall.out.mono ?_
      rintro r W24 ⟨rfl, hb⟩
      have f_24 := f_23.below hb
      go_wp2_with fail
      go_ret
      exact ⟨rfl, f_24.low⟩
    · have hcc : (c != 0) = true := by rcases hc with rfl | rfl <;> rfl
      clear hc
      go_wp2_with fail
      go_ret
      exact ⟨rfl, f_20.low⟩
  · have hcc : (c == 0) = false := by rcases hc with rfl | rfl <;> rfl
    clear hc
    skip
    obtain ⟨s0, -⟩ := blk1 (f_6.rot1).blk
    go_wp2_with fail
    refine (hss.out W6 (f_6.rot1).low).mono ?_
    rintro r W20 ⟨rfl, hb⟩
    have f_20 := (f_6.rot1).below hb
    clear hb s0 hss
    rcases hbS with ⟨t, rfl, ht, zs, j, hj, hz⟩ | ⟨c, rfl, hc⟩
    · have hrs := fun W => read_src (s := t) (by unfold maxLen; omega) hj W
      replace hrs := hid hrs
      clear hj
      go_wp2_with fail
      refine (hrs.out W20).mono ?_
      rintro r W21 ⟨hb, A', c', rfl, hin⟩
      have f_21 := f_20.below hb
      clear hb f_20
      go_upto_region 14 with fail
      have f_22 := f_21.alloc (.cells #[.slice A' zs.length c'] 25)
      have z_22 := alloc_size W21 (.cells #[.slice A' zs.length c'] 25)
      replace hin := hin.keep (same_below (Nat.le_refl _) ((Below.refl W21.heap.size W21).alloc (Nat.le_refl _) (.cells #[.slice A' zs.length c'] 25)))
      clear f_21
      generalize hX : W21.heap.size = X at *
      generalize W21.alloc (.cells #[.slice A' zs.length c'] 25) = W22 at *
      have f_23 := f_22.alloc (.cells #[.int .i64 0, .int .i64 0, .int .i64 0] 30)
      have z_23 := alloc_size W22 (.cells #[.int .i64 0, .int .i64 0, .int .i64 0] 30)
      replace hin := hin.keep (same_below (by omega) ((Below.refl W22.heap.size W22).alloc (Nat.le_refl _) (.cells #[.int .i64 0, .int .i64 0, .int .i64 0] 30)))
      clear f_22
      try rw [← z_22]
      replace z_22 := Nat.le_of_eq z_22.symm
      replace z_23 := Nat.le_of_eq z_23.symm
      generalize hF : W22.heap.size = F at *
      generalize W22.alloc (.cells #[.int .i64 0, .int .i64 0, .int .i64 0] 30) = W23 at *
      have hin := hin.more (show X ≤ W23.heap.size by omega)
      have hcall := heq.out zs A' c' W23 f_23.low hin
      rw [hz] at hcall
      replace hcall := hid hcall
      clear hin heq hz
      obtain ⟨x0, -⟩ := blk1 f_23.rot1.blk
      obtain ⟨y0, -⟩ := blk1 (f_23.rot2).blk
      obtain ⟨u0, u1, u2, -⟩ := blk3 f_23.blk
      clear hX hF z_22 z_23
      go_wp2_with fail
      refine hcall.out.mono ?_
      rintro r W24 ⟨rfl, hb⟩
      have f_24 := f_23.below hb
      go_wp2_with fail
      go_ret
      exact ⟨rfl, f_24.low⟩
    · have hcc : (c != 0) = true := by rcases hc with rfl | rfl <;> rfl
      clear hc
      go_wp2_with fail
      go_ret
      exact ⟨rfl, f_20.low⟩
end Go.Proofs.YtnlikhjmmnaknaaGreatDoor
