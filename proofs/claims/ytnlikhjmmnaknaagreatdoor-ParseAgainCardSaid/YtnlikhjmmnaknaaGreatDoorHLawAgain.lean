/-
  The walk of the statement ParseAgain.
-/
import Derived.Test.YtnlikhjmmnaknaaGreatDoorHLawBack14
import Derived.Test.YtnlikhjmmnaknaaGreatDoorHFewSrc
import Derived.Test.YtnlikhjmmnaknaaGreatDoorHBadAt
import Derived.Test.YtnlikhjmmnaknaaGreatDoorGH
namespace Go.Proofs.YtnlikhjmmnaknaaGreatDoor
open Go.RowKit

theorem read_bad {s : ByteArray} {xs : List NodeE} {er ln cl : Int} (hs : s.size ≤ maxLen) (h : sourceOf s = (xs, .bad er ln cl)) (w : World) : Calls Tryz.prog 6 #[.string s] w fun r w' => (r = .returned (.tuple #[.agg #[.slice none 0 0], .agg #[.int .i64 er, .int .i64 ln, .int .i64 cl]]) ∧ (er != 0) = true ∧ 1 ≤ ln ∧ 1 ≤ cl) ∧ Below w.heap.size w w' :=
  (psource_any s w hs).mono fun r w' hp => by
    obtain ⟨hb, hp⟩ := hp
    rw [h] at hp
    obtain ⟨h0, rfl⟩ := hp
    exact ⟨⟨rfl, by simpa using h0, source_at h h0⟩, hb⟩
theorem src_sizes {s : ByteArray} {xs : List NodeE} {i : Nat} (h : sourceOf s = (xs, .ok i)) : ∀ n ∈ xs, ∀ q ∈ n.eqs, q.right.size ≤ 1000000 := by
  have := outS_size s
  rw [outS_ok h] at this
  exact this
theorem srcB_parts {xs : List NodeE} (h : srcB xs = true) : xs.all nodeB = true ∧ xs.length ≤ 16 := by
  unfold srcB at h
  simp only [Bool.and_eq_true, decide_eq_true_eq] at h
  exact ⟨h.1.1, h.2⟩

set_option maxRecDepth 100000 in
set_option maxHeartbeats 8000000 in
theorem parseAgain_any (s : ByteArray) (w : World) (hs : s.size ≤ maxLen) (hT : Tab w) :
    Calls Tryz.prog 3 #[.string s] w fun r w' => r = .returned (.bool true) ∧ Below w.heap.size w w' := by
  have hG := hT.lt
  go_enter Tryz.func3, Tryz.ntmps3
  have f_0 := Fr.start0 w
  go_wp2_with fail
  refine (awake14_any _).mono ?_
  rintro r w1 ⟨rfl, hb⟩
  have f_1 := f_0.below hb
  clear hb f_0
  have hsl : (s.size : Int) ≤ 9223372036854775807 := by unfold maxLen at hs; omega
  by_cases hl : s.size ≤ 3000
  case neg =>
    go_wp2_with fail
    go_ret
    exact ⟨rfl, f_1.low⟩
  case pos =>
  rcases hso : sourceOf s with ⟨xs, j | ⟨er, ln, cl⟩⟩
  case bad =>
    have hrs := fun W => read_bad hs hso W
    replace hrs := hid hrs
    clear hso
    go_wp2_with fail
    refine (hrs.out w1).mono ?_
    rintro r w2 ⟨⟨rfl, her, hln, hcl⟩, hb⟩
    have f_2 := f_1.below hb
    clear hb f_1
    go_upto_region 6 with fail
    have f_3 := f_2.alloc (.cells #[.slice none 0 0] 25)
    have z_3 := alloc_size w2 (.cells #[.slice none 0 0] 25)
    clear f_2
    generalize hX : w2.heap.size = X at *
    generalize w2.alloc (.cells #[.slice none 0 0] 25) = w3 at *
    have f_4 := f_3.alloc (.cells #[.int .i64 er, .int .i64 ln, .int .i64 cl] 30)
    have z_4 := alloc_size w3 (.cells #[.int .i64 er, .int .i64 ln, .int .i64 cl] 30)
    clear f_3
    try rw [← z_3]
    replace z_3 := Nat.le_of_eq z_3.symm
    replace z_4 := Nat.le_of_eq z_4.symm
    generalize hF : w3.heap.size = F at *
    generalize w3.alloc (.cells #[.int .i64 er, .int .i64 ln, .int .i64 cl] 30) = w4 at *
    obtain ⟨x0, -⟩ := blk1 f_4.rot1.blk
    obtain ⟨u0, u1, u2, -⟩ := blk3 f_4.blk
    have hl1 : decide (1 ≤ ln) = true := by simpa using hln
    have hc1 : decide (1 ≤ cl) = true := by simpa using hcl
    clear hX hF z_3 z_4
    go_wp2_with fail
    go_ret
    exact ⟨rfl, f_4.low⟩
  case ok =>
  have hrs := fun W => read_src hs hso W
  replace hrs := hid hrs
  have hsr := source_right hso
  have hsz := src_sizes hso
  clear hso
  go_wp2_with fail
  refine (hrs.out w1).mono ?_
  rintro r w2 ⟨hb, A, c, rfl, hin⟩
  have f_2 := (f_1.below hb).low
  clear hb f_1 hrs
  have hT2 := hT.below f_2 hG
  have hG2 := hT2.lt
  have hfew : ∀ n ∈ xs, n.few := fun n hn => few_of_fine (src_fine hin hsr n hn) (hsz n hn)
  have hlen := src_len hin hsr fun n hn q hq => Nat.le_trans (hsz n hn q hq) (by omega)
  obtain ⟨hall, h16⟩ := srcB_parts hsr
  have hk := fun W (h : Below w2.heap.size w2 W) => hin.keep (same_below (Nat.le_refl _) h)
  have htr := fun W (h : Below w2.heap.size w2 W) => source_any xs ⟨A, c⟩ w2.heap.size W (hk W h) h.size (fun n hn q hq => Nat.le_trans ((hfew n hn).2.2.2.2 q hq).2.1 (by omega))
  have hrr := fun W (h : Below w2.heap.size w2 W) => rsource_any xs ⟨A, c⟩ w2.heap.size W (hk W h) h.size hfew
  have hsh := fun W (h : Below w2.heap.size w2 W) => showSource_any xs ⟨A, c⟩ w2.heap.size W (hk W h) h.size (hT2.below h hG2) (fun n hn q hq => Nat.le_trans ((hfew n hn).2.2.2.2 q hq).2.1 (by omega)) (fun _ => Nat.le_trans hlen (by omega))
  have htx := fun W (h : Below w2.heap.size w2 W) => rtext_wr xs ⟨A, c⟩ w2.heap.size W (hk W h) h.size hall h16 hlen
  have hft := fun W => rfits_any (srcTxt xs) W (Nat.le_trans hlen (by omega))
  have heq := fun (zs : List NodeE) (hz : zipB nodeS zs xs = true) (A' : Option Addr) (c' : Nat) W (h : Below w2.heap.size w2 W) (h' : SrcIs W.heap.size W zs ⟨A', c'⟩) => requal_any xs zs ⟨A, c⟩ ⟨A', c'⟩ W.heap.size W ((hk W h).more h.size) h' (Nat.le_refl _)
  have hzc := fun (zs : List NodeE) (hz : zipB nodeS zs xs = true) (A' : Option Addr) (c' : Nat) W (h' : SrcIs W.heap.size W zs ⟨A', c'⟩) => (src_comm hin h').trans hz
  rw [hsr] at htr hrr
  have hbS : (∃ t, fitsT (srcTxt xs) = true ∧ shownS xs = (t, 0) ∧ t.size ≤ 16384 ∧ ∃ zs j, sourceOf t = (zs, .ok j) ∧ zipB nodeS zs xs = true) ∨ (fitsT (srcTxt xs) = false ∧ shownS xs = (⟨#[]⟩, 3)) := by
    unfold shownS
    rw [if_pos hsr]
    by_cases hf : fitsT (srcTxt xs) = true
    · rw [if_pos hf]
      obtain ⟨l, hl⟩ := fits_scan hf
      exact .inl ⟨_, hf, rfl, (scan_toks hl).2.2, source_shown (src_fine hin hsr) hsr hl⟩
    · rw [if_neg hf]; exact .inr ⟨by simpa using hf, rfl⟩
  unfold srcVal Sl.v at htr hrr hsh htx heq
  replace htr := hid htr
  replace hrr := hid hrr
  replace hsh := hid hsh
  replace htx := hid htx
  replace hft := hid hft
  replace heq := hid heq
  replace hzc := hid hzc
  have hf2 := hid f_2
  clear hk hin hall h16 hlen hfew hsz hsr hT hG hT2 hG2 f_2 hl hs
  have g_2 := Fr.start0 w2
  obtain ⟨N, hN⟩ : ∃ N, xs.length = N := ⟨_, rfl⟩
  rw [hN] at htr hrr hsh htx heq ⊢
  go_upto_region 6 with fail
  have g_3 := g_2.alloc (.cells #[.slice A N c] 25)
  clear g_2
  have z_3 := alloc_size w2 (.cells #[.slice A N c] 25)
  generalize w2.alloc (.cells #[.slice A N c] 25) = w3 at *
  have g_4 := g_3.alloc (.cells #[.int .i64 0, .int .i64 0, .int .i64 0] 30)
  clear g_3
  generalize w3.heap.size = F at *
  try rw [← z_3]
  clear z_3
  generalize w3.alloc (.cells #[.int .i64 0, .int .i64 0, .int .i64 0] 30) = w4 at *
  obtain ⟨x0, -⟩ := blk1 g_4.rot1.blk
  obtain ⟨u0, u1, u2, -⟩ := blk3 g_4.blk
  go_wp2_with fail
  refine (htr.out w4 g_4.low).mono ?_
  rintro r w5 ⟨rfl, hb⟩
  have g_5 := g_4.below hb
  clear hb g_4 x0 u0 u1 u2
  obtain ⟨x0, -⟩ := blk1 g_5.rot1.blk
  go_wp2_with fail
  refine (hrr.out w5 g_5.low).mono ?_
  rintro r w6 ⟨rfl, hb⟩
  have g_6 := g_5.below hb
  clear hb g_5 x0
  obtain ⟨x0, -⟩ := blk1 g_6.rot1.blk
  go_wp2_with fail
  refine (hsh.out w6 g_6.low).mono ?_
  rintro r w7 ⟨rfl, hb⟩
  have g_7 := g_6.below hb
  clear hb g_6 x0
  generalize shownS xs = shS at *
  obtain ⟨x0, -⟩ := blk1 g_7.rot1.blk
  go_wp2_with fail
  refine (htx.out w7 g_7.low).mono ?_
  rintro r w8 ⟨rfl, hb⟩
  have g_8 := g_7.below hb
  clear hb g_7 x0
  go_wp2_with fail
  refine (hft.out w8).mono ?_
  rintro r w9 ⟨rfl, hb⟩
  have g_9 := g_8.below hb
  clear hb g_8
  generalize fitsT (srcTxt xs) = ft at *
  rcases hbS with ⟨t, rfl, rfl, ht, zs, j, hj, hz⟩ | ⟨rfl, rfl⟩
  case inr =>
    go_wp2_with fail
    go_ret
    exact ⟨rfl, hf2.out.trans (g_9.low.mono hf2.out.size)⟩
  case inl =>
  have hrs := fun W => read_src (s := t) (by unfold maxLen; omega) hj W
  replace hrs := hid hrs
  clear hj
  go_wp2_with fail
  refine (hrs.out w9).mono ?_
  rintro r w10 ⟨hb, A', c', rfl, hin⟩
  have g_10 := g_9.below hb
  clear hb g_9
  go_upto_region 14 with fail
  have g_11 := g_10.alloc (.cells #[.slice A' zs.length c'] 25)
  have z_11 := alloc_size w10 (.cells #[.slice A' zs.length c'] 25)
  replace hin := hin.keep (same_below (Nat.le_refl _) ((Below.refl w10.heap.size w10).alloc (Nat.le_refl _) (.cells #[.slice A' zs.length c'] 25)))
  clear g_10
  generalize hX : w10.heap.size = X2 at *
  generalize w10.alloc (.cells #[.slice A' zs.length c'] 25) = w11 at *
  have g_12 := g_11.alloc (.cells #[.int .i64 0, .int .i64 0, .int .i64 0] 30)
  have z_12 := alloc_size w11 (.cells #[.int .i64 0, .int .i64 0, .int .i64 0] 30)
  replace hin := hin.keep (same_below (by omega) ((Below.refl w11.heap.size w11).alloc (Nat.le_refl _) (.cells #[.int .i64 0, .int .i64 0, .int .i64 0] 30)))
  clear g_11
  try rw [← z_11]
  replace z_11 := Nat.le_of_eq z_11.symm
  replace z_12 := Nat.le_of_eq z_12.symm
  generalize hF : w11.heap.size = F2 at *
  generalize w11.alloc (.cells #[.int .i64 0, .int .i64 0, .int .i64 0] 30) = w12 at *
  have hin := hin.more (show X2 ≤ w12.heap.size by omega)
  have hcall := heq.out zs hz A' c' w12 g_12.low hin
  rw [hzc.out zs hz A' c' w12 hin] at hcall
  replace hcall := hid hcall
  clear hin heq hz hzc
  obtain ⟨y0, -⟩ := blk1 g_12.rot1.blk
  obtain ⟨x0, -⟩ := blk1 g_12.rot3.blk
  obtain ⟨u0, u1, u2, -⟩ := blk3 g_12.blk
  clear hX hF z_11 z_12
  go_wp2_with fail
  refine hcall.out.mono ?_
  rintro r w13 ⟨rfl, hb⟩
  have g_13 := g_12.below hb
  go_wp2_with fail
  go_ret
  exact ⟨rfl, hf2.out.trans (g_13.low.mono hf2.out.size)⟩
end Go.Proofs.YtnlikhjmmnaknaaGreatDoor
