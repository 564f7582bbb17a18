/-
  The walk of parse.Expr (printed by gen_p2.py).
-/
import Derived.Test.YtnlikhjmmnaknaaGreatDoorHParO
import Derived.Deep.CutRange
namespace Go.Proofs.YtnlikhjmmnaknaaGreatDoor
open Go.RowKit


set_option maxHeartbeats 4000000 in
set_option maxRecDepth 100000 in
theorem parse_none (s : ByteArray) (w : World) (hs : s.size ≤ maxLen) {e : Int} {p : Nat} (hsc : scanOf s = .bad e p) : Calls Tryz.prog 16 #[.string s] w (ExprPost s w) := by
  go_enter Tryz.func16, Tryz.ntmps16
  have f_0 := Fr.start0 w
  go_wp2_with fail
  have f_1 := f_0.alloc (.cells #[.int .i64 0, .string ⟨#[]⟩, .int .i64 0, .slice none 0 0, .int .i64 0, .int .i64 0] 41)
  have z_1 := alloc_size w (.cells #[.int .i64 0, .string ⟨#[]⟩, .int .i64 0, .slice none 0 0, .int .i64 0, .int .i64 0] 41)
  clear f_0
  generalize w.heap.size = R at *
  generalize w.alloc (.cells #[.int .i64 0, .string ⟨#[]⟩, .int .i64 0, .slice none 0 0, .int .i64 0, .int .i64 0] 41) = W1 at *
  have f_2 := f_1.alloc (.cells #[.int .i64 0, .int .i64 0, .int .i64 0] 30)
  have z_2 := alloc_size W1 (.cells #[.int .i64 0, .int .i64 0, .int .i64 0] 30)
  clear f_1
  generalize W1.heap.size = Fb at *
  generalize W1.alloc (.cells #[.int .i64 0, .int .i64 0, .int .i64 0] 30) = W2 at *
  rw [← z_1]
  clear z_1
  clear z_2
  refine (scan_any s _ hs).mono ?_
  rintro r W9 ⟨hb, hm⟩
  rw [hsc] at hm
  obtain rfl := hm
  have f_9 := f_2.below hb
  clear hb f_2
  have he : (e != 0) = true := by have := scan_bad hsc; simp only [bne, this]; rfl
  generalize hln : (place s p).1 = ln at *
  generalize hcl : (place s p).2 = cl at *
  have hlnH := hid hln
  have hclH := hid hcl
  clear hln hcl
  go_upto_region 2 with fail
  have f_10 := f_9.alloc (.cells #[.int .i64 e, .int .i64 ln, .int .i64 cl] 30)
  have z_10 := alloc_size W9 (.cells #[.int .i64 e, .int .i64 ln, .int .i64 cl] 30)
  clear f_9
  generalize W9.heap.size = Fc at *
  generalize W9.alloc (.cells #[.int .i64 e, .int .i64 ln, .int .i64 cl] 30) = W10 at *
  clear z_10
  obtain ⟨c0, c1, c2, z0, z1, z2⟩ := blk3 f_10.blk
  go_upto_region 3 with fail
  clear he
  obtain ⟨kR0, kR1, kR2, kR3, kR4, kR5, fR0, fR1, fR2, fR3, fR4, fR5⟩ := blk6 f_10.rot2.blk
  obtain ⟨a0, a1, a2, b0, b1, b2⟩ := blk3 f_10.rot1.blk
  obtain ⟨d0, d1, d2, e0, e1, e2⟩ := blk3 (Fr.set6 f_10.rot2 (.int .i64 0) (.string ⟨#[]⟩) (.int .i64 0) (.slice none 0 0) (.int .i64 0) (.int .i64 0)).rot2.blk
  obtain ⟨l0, l1, l2, m0, m1, m2⟩ := blk3 (Fr.set6 f_10.rot2 (.int .i64 0) (.string ⟨#[]⟩) (.int .i64 0) (.slice none 0 0) (.int .i64 0) (.int .i64 0)).rot1.blk
  go_region
  go_wp2_with fail
  clear l0 l1 l2 m0 m1 m2
  clear c0 c1 c2 z0 z1 z2 a0 a1 a2 b0 b1 b2 d0 d1 d2 e0 e1 e2 kR0 kR1 kR2 kR3 kR4 kR5 fR0 fR1 fR2 fR3 fR4 fR5
  have f_11 := Fr.set6 f_10.rot2 (.int .i64 0) (.string ⟨#[]⟩) (.int .i64 0) (.slice none 0 0) (.int .i64 0) (.int .i64 0)
  clear f_10
  generalize ((((((W10.setCell ⟨R, 0, none⟩ (.int .i64 0)).setCell ⟨R, 1, none⟩ (.string ⟨#[]⟩)).setCell ⟨R, 2, none⟩ (.int .i64 0)).setCell ⟨R, 3, none⟩ (.slice none 0 0)).setCell ⟨R, 4, none⟩ (.int .i64 0)).setCell ⟨R, 5, none⟩ (.int .i64 0)) = W11 at *
  have f_12 := Fr.set3 f_11.rot2 (.int .i64 e) (.int .i64 ln) (.int .i64 cl)
  clear f_11
  generalize (((W11.setCell ⟨Fb, 0, none⟩ (.int .i64 e)).setCell ⟨Fb, 1, none⟩ (.int .i64 ln)).setCell ⟨Fb, 2, none⟩ (.int .i64 cl)) = W12 at *
  have f_13 := f_12.drew
  clear f_12
  generalize W12.drew = W13 at *
  obtain ⟨r0, r1, r2, r3, r4, r5, -⟩ := blk6 f_13.rot1.blk
  obtain ⟨s0, s1, s2, -⟩ := blk3 f_13.blk
  try simp only [Exit.inBlock, Exit.then]
  refine bodyPost_ret (v := .tuple #[.agg #[.int .i64 0, .string ⟨#[]⟩, .int .i64 0, .slice none 0 0, .int .i64 0, .int .i64 0], .agg #[.int .i64 e, .int .i64 ln, .int .i64 cl]]) (by simp [results, Tryz.results16, go_sem, r0, r1, r2, r3, r4, r5, s0, s1, s2]) rfl ⟨f_13.low, ?_⟩
  unfold parseOf
  rw [hsc]
  refine ⟨?_, ?_⟩
  · intro h0; have := scan_bad hsc; simp [h0] at this
  · rw [hlnH.out, hclH.out]

set_option maxHeartbeats 4000000 in
set_option maxRecDepth 100000 in
theorem parse_some (s : ByteArray) (w : World) (hs : s.size ≤ maxLen) {l : List Tk} (hsc : scanOf s = .toks l) : Calls Tryz.prog 16 #[.string s] w (ExprPost s w) := by
  go_enter Tryz.func16, Tryz.ntmps16
  have f_0 := Fr.start0 w
  go_wp2_with fail
  have f_1 := f_0.alloc (.cells #[.int .i64 0, .string ⟨#[]⟩, .int .i64 0, .slice none 0 0, .int .i64 0, .int .i64 0] 41)
  have z_1 := alloc_size w (.cells #[.int .i64 0, .string ⟨#[]⟩, .int .i64 0, .slice none 0 0, .int .i64 0, .int .i64 0] 41)
  clear f_0
  generalize w.heap.size = R at *
  generalize w.alloc (.cells #[.int .i64 0, .string ⟨#[]⟩, .int .i64 0, .slice none 0 0, .int .i64 0, .int .i64 0] 41) = W1 at *
  have f_2 := f_1.alloc (.cells #[.int .i64 0, .int .i64 0, .int .i64 0] 30)
  have z_2 := alloc_size W1 (.cells #[.int .i64 0, .int .i64 0, .int .i64 0] 30)
  clear f_1
  generalize W1.heap.size = Fb at *
  generalize W1.alloc (.cells #[.int .i64 0, .int .i64 0, .int .i64 0] 30) = W2 at *
  rw [← z_1]
  clear z_1
  clear z_2
  obtain ⟨hE, hK, hl0, hl1⟩ := scan_facts hsc
  refine (scan_any s _ hs).mono ?_
  rintro r W9 ⟨hb, hm⟩
  rw [hsc] at hm
  obtain ⟨g, c, rfl, ho⟩ := hm
  have f_9 := f_2.addRow hb ho
  clear hb ho f_2
  go_upto_region 2 with fail
  have f_10 := f_9.alloc (.cells #[.int .i64 0, .int .i64 0, .int .i64 0] 30)
  have z_10 := alloc_size W9 (.cells #[.int .i64 0, .int .i64 0, .int .i64 0] 30)
  clear f_9
  generalize W9.heap.size = Fc at *
  generalize W9.alloc (.cells #[.int .i64 0, .int .i64 0, .int .i64 0] 30) = W10 at *
  clear z_10
  obtain ⟨c0, c1, c2, z0, z1, z2⟩ := blk3 f_10.blk
  go_upto_region 5 with fail
  clear c0 c1 c2 z0 z1 z2
  have f_11 := f_10.alloc (.cells #[.slice (some ⟨g, 0, none⟩) l.length c, .int .i64 0, .int .i64 0, .int .i64 0, .int .i64 0] 53)
  have z_11 := alloc_size W10 (.cells #[.slice (some ⟨g, 0, none⟩) l.length c, .int .i64 0, .int .i64 0, .int .i64 0, .int .i64 0] 53)
  clear f_10
  generalize W10.heap.size = P at *
  generalize W10.alloc (.cells #[.slice (some ⟨g, 0, none⟩) l.length c, .int .i64 0, .int .i64 0, .int .i64 0, .int .i64 0] 53) = W11 at *
  clear z_11
  have fin := f_11.rot1.rot3.rot4.rot4.rot4
  clear f_11
  have hsm := fin.sm0 parser_ne_tok hl0 (by omega)
  have i_0 := PF.start hsm
  clear hsm
  go_wp2_with fail
  refine (expr_any hE hK 64 (by omega) 0 (by omega) (by omega) (.ok 0) W11 i_0.sm).mono ?_
  rintro r W12 ⟨ex, Ax, cx, tx, mx, rfl, Gx⟩
  obtain ⟨Dx, f_12⟩ := i_0.expr Gx
  obtain ⟨lowx, topx, okx, camex⟩ := Gx.facts
  clear i_0 Gx
  simp only [Ex.val_eq]
  go_upto_region 6 with fail
  have f_13 := f_12.alloc (.cells #[.int .i64 ex.op, .string ex.name, .int .i64 ex.num, .slice Ax ex.k cx, .int .i64 ex.line, .int .i64 ex.col] 41)
  have z_13 := alloc_size W12 (.cells #[.int .i64 ex.op, .string ex.name, .int .i64 ex.num, .slice Ax ex.k cx, .int .i64 ex.line, .int .i64 ex.col] 41)
  clear f_12
  generalize W12.heap.size = X at *
  generalize W12.alloc (.cells #[.int .i64 ex.op, .string ex.name, .int .i64 ex.num, .slice Ax ex.k cx, .int .i64 ex.line, .int .i64 ex.col] 41) = W13 at *
  clear z_13
  go_wp2_with fail
  refine (end_m f_13.sm).mono ?_
  rintro r W14 ⟨rfl, t_14, q_14⟩
  have f_14 := f_13.turn t_14 q_14
  clear f_13 t_14 q_14
  go_wp2_with fail
  have hpo := hid (parse_toks hsc camex.out)
  generalize mx.ends s l = m2 at *
  have hsm2 := Fr.sm f_14
  obtain ⟨oP, f_j⟩ := fin.join f_14
  clear fin lowx topx okx camex f_14
  simp only [List.cons_append, List.nil_append] at f_j
  refine (bad_m hsm2).mono ?_
  rintro r Wb ⟨rfl, rfl⟩
  cases m2 with
  | ok i =>
    clear hsm2
    have hp2 : parseOf s = .ok ex i := hpo.out
    have hpH := hid hp2
    clear hp2 hpo
    generalize hib : Md.isBad (.ok i) = ib
    obtain rfl : false = ib := hib
    go_upto_region 9 with fail
    obtain ⟨kX0, kX1, kX2, kX3, kX4, kX5, fX0, fX1, fX2, fX3, fX4, fX5⟩ := blk6 f_j.rot1.blk
    obtain ⟨kR0, kR1, kR2, kR3, kR4, kR5, fR0, fR1, fR2, fR3, fR4, fR5⟩ := blk6 f_j.rot4.blk
    obtain ⟨a0, a1, a2, b0, b1, b2⟩ := blk3 f_j.rot5.blk
    obtain ⟨d0, d1, d2, e0, e1, e2⟩ := blk3 (Fr.set6 f_j.rot4 (.int .i64 ex.op) (.string ex.name) (.int .i64 ex.num) (.slice Ax ex.k cx) (.int .i64 ex.line) (.int .i64 ex.col)).rot5.blk
    go_wp2_with fail
    clear a0 a1 a2 b0 b1 b2 d0 d1 d2 e0 e1 e2 kR0 kR1 kR2 kR3 kR4 kR5 fR0 fR1 fR2 fR3 fR4 fR5 kX0 kX1 kX2 kX3 kX4 kX5 fX0 fX1 fX2 fX3 fX4 fX5
    have f_15 := Fr.set6 f_j.rot4 (.int .i64 ex.op) (.string ex.name) (.int .i64 ex.num) (.slice Ax ex.k cx) (.int .i64 ex.line) (.int .i64 ex.col)
    clear f_j
    generalize ((((((W14.setCell ⟨R, 0, none⟩ (.int .i64 ex.op)).setCell ⟨R, 1, none⟩ (.string ex.name)).setCell ⟨R, 2, none⟩ (.int .i64 ex.num)).setCell ⟨R, 3, none⟩ (.slice Ax ex.k cx)).setCell ⟨R, 4, none⟩ (.int .i64 ex.line)).setCell ⟨R, 5, none⟩ (.int .i64 ex.col)) = W15 at *
    have f_16 := Fr.set3 f_15.rot5 (.int .i64 0) (.int .i64 0) (.int .i64 0)
    clear f_15
    generalize (((W15.setCell ⟨Fb, 0, none⟩ (.int .i64 0)).setCell ⟨Fb, 1, none⟩ (.int .i64 0)).setCell ⟨Fb, 2, none⟩ (.int .i64 0)) = W16 at *
    have fin := f_16.rot4
    obtain ⟨r0, r1, r2, r3, r4, r5, -⟩ := blk6 f_16.rot1.blk
    obtain ⟨s0, s1, s2, -⟩ := blk3 f_16.blk
    try simp only [Exit.inBlock, Exit.then]
    refine bodyPost_ret (v := .tuple #[.agg #[.int .i64 ex.op, .string ex.name, .int .i64 ex.num, .slice Ax ex.k cx, .int .i64 ex.line, .int .i64 ex.col], .agg #[.int .i64 0, .int .i64 0, .int .i64 0]]) (by simp [results, Tryz.results16, go_sem, r0, r1, r2, r3, r4, r5, s0, s1, s2]) rfl ⟨f_16.low, ?_⟩
    rw [hpH.out]
    exact ⟨Ax, cx, rfl, fin.exd⟩
  | bad er ln cl =>
    have hp2 : parseOf s = .bad er ln cl := hpo.out
    have hpH := hid hp2
    clear hp2 hpo
    obtain ⟨her, ip, hst⟩ := hsm2
    obtain ⟨c2, b0, pt, hpt, hPb, -⟩ := hst.blk
    have hoP := f_j.blk
    rw [hPb] at hoP
    injection hoP with hoP
    subst hoP
    clear hst hpt hPb
    generalize hib : Md.isBad (.bad er ln cl) = ib
    obtain rfl : true = ib := hib
    have herH := hid her
    clear her
    go_upto_region 8 with fail
    obtain ⟨kR0, kR1, kR2, kR3, kR4, kR5, fR0, fR1, fR2, fR3, fR4, fR5⟩ := blk6 f_j.rot4.blk
    obtain ⟨kP0, kP1, kP2, kP3, kP4, fP0, fP1, fP2, fP3, fP4⟩ := blk5 f_j.blk
    obtain ⟨a0, a1, a2, b0, b1, b2⟩ := blk3 f_j.rot5.blk
    obtain ⟨d0, d1, d2, e0, e1, e2⟩ := blk3 (Fr.set6 f_j.rot4 (.int .i64 0) (.string ⟨#[]⟩) (.int .i64 0) (.slice none 0 0) (.int .i64 0) (.int .i64 0)).rot5.blk
    obtain ⟨l0, l1, l2, l3, l4, m0, m1, m2, m3, m4⟩ := blk5 (Fr.set6 f_j.rot4 (.int .i64 0) (.string ⟨#[]⟩) (.int .i64 0) (.slice none 0 0) (.int .i64 0) (.int .i64 0)).rot1.blk
    go_region
    go_wp2_with fail
    clear l0 l1 l2 l3 l4 m0 m1 m2 m3 m4 kP0 kP1 kP2 kP3 kP4 fP0 fP1 fP2 fP3 fP4
    clear a0 a1 a2 b0 b1 b2 d0 d1 d2 e0 e1 e2 kR0 kR1 kR2 kR3 kR4 kR5 fR0 fR1 fR2 fR3 fR4 fR5
    have f_15 := Fr.set6 f_j.rot4 (.int .i64 0) (.string ⟨#[]⟩) (.int .i64 0) (.slice none 0 0) (.int .i64 0) (.int .i64 0)
    clear f_j
    generalize ((((((W14.setCell ⟨R, 0, none⟩ (.int .i64 0)).setCell ⟨R, 1, none⟩ (.string ⟨#[]⟩)).setCell ⟨R, 2, none⟩ (.int .i64 0)).setCell ⟨R, 3, none⟩ (.slice none 0 0)).setCell ⟨R, 4, none⟩ (.int .i64 0)).setCell ⟨R, 5, none⟩ (.int .i64 0)) = W15 at *
    have f_16 := Fr.set3 f_15.rot5 (.int .i64 er) (.int .i64 ln) (.int .i64 cl)
    clear f_15
    generalize (((W15.setCell ⟨Fb, 0, none⟩ (.int .i64 er)).setCell ⟨Fb, 1, none⟩ (.int .i64 ln)).setCell ⟨Fb, 2, none⟩ (.int .i64 cl)) = W16 at *
    have f_17 := f_16.drew
    clear f_16
    generalize W16.drew = W17 at *
    obtain ⟨r0, r1, r2, r3, r4, r5, -⟩ := blk6 f_17.rot1.blk
    obtain ⟨s0, s1, s2, -⟩ := blk3 f_17.blk
    try simp only [Exit.inBlock, Exit.then]
    refine bodyPost_ret (v := .tuple #[.agg #[.int .i64 0, .string ⟨#[]⟩, .int .i64 0, .slice none 0 0, .int .i64 0, .int .i64 0], .agg #[.int .i64 er, .int .i64 ln, .int .i64 cl]]) (by simp [results, Tryz.results16, go_sem, r0, r1, r2, r3, r4, r5, s0, s1, s2]) rfl ⟨f_17.low, ?_⟩
    rw [hpH.out]
    exact ⟨herH.out, rfl⟩
end Go.Proofs.YtnlikhjmmnaknaaGreatDoor
