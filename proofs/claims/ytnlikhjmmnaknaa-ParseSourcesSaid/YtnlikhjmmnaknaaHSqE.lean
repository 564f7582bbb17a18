/-
  The walk of the reference's Source (printed by gen_p5.py).
-/
import Derived.Test.YtnlikhjmmnaknaaGV
import Derived.Deep.CutRange
import Derived.Test.YtnlikhjmmnaknaaGT
import Derived.Test.YtnlikhjmmnaknaaHRPar9
import Derived.Deep.LoopGhost
import Derived.Deep.RegionLaw
namespace Go.Proofs.Ytnlikhjmmnaknaa
open Go.RowKit


set_option maxHeartbeats 4000000 in
set_option maxRecDepth 100000 in
theorem rsource_none (s : ByteArray) (w : World) (hs : s.size ≤ maxLen) {e : Int} {p : Nat} (hsc : scanOf s = .bad e p) : Calls Try.prog 10 #[.string s] w (SrcPost s w) := by
  go_enter Try.func10, Try.ntmps10
  have f_0 := Fr.start0 w
  go_wp2_with fail
  have f_1 := f_0.alloc (.cells #[.slice none 0 0] 37)
  have z_1 := alloc_size w (.cells #[.slice none 0 0] 37)
  clear f_0
  generalize w.heap.size = R at *
  generalize w.alloc (.cells #[.slice none 0 0] 37) = W1 at *
  have f_2 := f_1.alloc (.cells #[.int .i64 0, .int .i64 0, .int .i64 0] 30)
  have z_2 := alloc_size W1 (.cells #[.int .i64 0, .int .i64 0, .int .i64 0] 30)
  clear f_1
  generalize W1.heap.size = Fb at *
  generalize W1.alloc (.cells #[.int .i64 0, .int .i64 0, .int .i64 0] 30) = W2 at *
  rw [← z_1]
  clear z_1
  clear z_2
  refine (rscan_any s _ hs).mono ?_
  rintro r W9 ⟨hb, hm⟩
  rw [hsc] at hm
  obtain rfl := hm
  have f_9 := f_2.below hb
  clear hb f_2
  have he : (e != 0) = true := by have := scan_bad hsc; simp only [bne, this]; rfl
  generalize hln : (place s p).1 = ln at *
  generalize hcl : (place s p).2 = cl at *
  have hlnH := hid hln
  have hclH := hid hcl
  clear hln hcl
  go_upto_region 2 with fail
  have f_10 := f_9.alloc (.cells #[.int .i64 e, .int .i64 ln, .int .i64 cl] 30)
  have z_10 := alloc_size W9 (.cells #[.int .i64 e, .int .i64 ln, .int .i64 cl] 30)
  clear f_9
  generalize W9.heap.size = Fc at *
  generalize W9.alloc (.cells #[.int .i64 e, .int .i64 ln, .int .i64 cl] 30) = W10 at *
  clear z_10
  obtain ⟨c0, c1, c2, z0, z1, z2⟩ := blk3 f_10.blk
  go_upto_region 3 with fail
  clear he c0 c1 c2 z0 z1 z2
  obtain ⟨u0, u1⟩ := blk1 f_10.rot2.blk
  obtain ⟨a0, a1, a2, b0, b1, b2⟩ := blk3 f_10.rot1.blk
  obtain ⟨d0, d1, d2, e0, e1, e2⟩ := blk3 (Fr.set (n := 0) f_10.rot2 (.slice none 0 0)).rot2.blk
  obtain ⟨x00, x01, x02, x03, x04, x05⟩ := blk3 f_10.blk
  obtain ⟨y00, y01, y02, y03, y04, y05⟩ := blk3 (Fr.set (n := 0) f_10.rot2 (.slice none 0 0)).rot1.blk
  go_region
  all_goals
    go_wp2_with fail
    clear u0 u1 a0 a1 a2 b0 b1 b2 d0 d1 d2 e0 e1 e2 x00 y00 x01 y01 x02 y02 x03 y03 x04 y04 x05 y05
    have f_11 := Fr.set (n := 0) f_10.rot2 (.slice none 0 0)
    simp only [List.setIfInBounds_toArray, List.set_cons_zero] at f_11
    clear f_10
    generalize W10.setCell ⟨R, 0, none⟩ (.slice none 0 0) = W11 at *
    have f_12 := Fr.set3 f_11.rot2 (.int .i64 e) (.int .i64 ln) (.int .i64 cl)
    clear f_11
    generalize (((W11.setCell ⟨Fb, 0, none⟩ (.int .i64 e)).setCell ⟨Fb, 1, none⟩ (.int .i64 ln)).setCell ⟨Fb, 2, none⟩ (.int .i64 cl)) = W12 at *
    have f_13 := f_12.drew
    clear f_12
    generalize W12.drew = W13 at *
    obtain ⟨r0, -⟩ := blk1 f_13.rot1.blk
    obtain ⟨s0, s1, s2, -⟩ := blk3 f_13.blk
    try simp only [Exit.inBlock, Exit.then]
    refine bodyPost_ret (v := .tuple #[.agg #[.slice none 0 0], .agg #[.int .i64 e, .int .i64 ln, .int .i64 cl]]) (by simp [results, Try.results10, go_sem, r0, s0, s1, s2]) rfl ⟨f_13.low, ?_⟩
    unfold sourceOf
    rw [hsc]
    refine ⟨?_, ?_⟩
    · intro h0; have := scan_bad hsc; simp [h0] at this
    · rw [hlnH.out, hclH.out]

set_option maxHeartbeats 4000000 in
set_option maxRecDepth 100000 in
theorem rsource_some (s : ByteArray) (w : World) (hs : s.size ≤ maxLen) {l : List Tk} (hsc : scanOf s = .toks l) : Calls Try.prog 10 #[.string s] w (SrcPost s w) := by
  go_enter Try.func10, Try.ntmps10
  have f_0 := Fr.start0 w
  go_wp2_with fail
  have f_1 := f_0.alloc (.cells #[.slice none 0 0] 37)
  have z_1 := alloc_size w (.cells #[.slice none 0 0] 37)
  clear f_0
  generalize w.heap.size = R at *
  generalize w.alloc (.cells #[.slice none 0 0] 37) = W1 at *
  have f_2 := f_1.alloc (.cells #[.int .i64 0, .int .i64 0, .int .i64 0] 30)
  have z_2 := alloc_size W1 (.cells #[.int .i64 0, .int .i64 0, .int .i64 0] 30)
  clear f_1
  generalize W1.heap.size = Fb at *
  generalize W1.alloc (.cells #[.int .i64 0, .int .i64 0, .int .i64 0] 30) = W2 at *
  rw [← z_1]
  clear z_1
  clear z_2
  obtain ⟨id, zd, hiid, hizd, hisd, hibd, hicd⟩ := info_Node
  obtain ⟨hE, hK, hl0, hl1⟩ := scan_facts hsc
  refine (rscan_any s _ hs).mono ?_
  rintro r W9 ⟨hb, hm⟩
  rw [hsc] at hm
  obtain ⟨g, c, rfl, ho⟩ := hm
  have f_9 := f_2.addRow hb ho
  clear hb ho f_2
  go_upto_region 2 with fail
  have f_10 := f_9.alloc (.cells #[.int .i64 0, .int .i64 0, .int .i64 0] 30)
  have z_10 := alloc_size W9 (.cells #[.int .i64 0, .int .i64 0, .int .i64 0] 30)
  clear f_9
  generalize W9.heap.size = Fc at *
  generalize W9.alloc (.cells #[.int .i64 0, .int .i64 0, .int .i64 0] 30) = W10 at *
  clear z_10
  obtain ⟨c0, c1, c2, z0, z1, z2⟩ := blk3 f_10.blk
  go_upto_region 5 with fail
  clear c0 c1 c2 z0 z1 z2
  have f_11 := f_10.alloc (.cells #[.slice (some ⟨g, 0, none⟩) l.length c, .int .i64 0, .int .i64 0, .int .i64 0, .int .i64 0] 51)
  have z_11 := alloc_size W10 (.cells #[.slice (some ⟨g, 0, none⟩) l.length c, .int .i64 0, .int .i64 0, .int .i64 0, .int .i64 0] 51)
  clear f_10
  generalize W10.heap.size = P at *
  generalize W10.alloc (.cells #[.slice (some ⟨g, 0, none⟩) l.length c, .int .i64 0, .int .i64 0, .int .i64 0, .int .i64 0] 51) = W11 at *
  clear z_11
  have fin := f_11.rot1.rot3.rot4.rot4.rot4
  clear f_11
  have hsm := fin.sm0 rpar_ne_tok hl0 (by omega)
  have i_0 := PF.start hsm
  clear hsm
  generalize hw0 : W11 = w0 at *
  have hw0H := hid hw0
  clear hw0
  go_wp2_with fail
  refine (rnode_m hE hK i_0).mono ?_
  rintro r W21 ⟨nd, Sn, Dn, m1, rfl, f_21, hm1, hv1⟩
  clear i_0
  go_upto_region 6 with fail
  have f_22 := f_21.alloc (.cells #[.string nd.name, .slice Sn.i.A nd.ins.length Sn.i.cap, .slice Sn.o.A nd.outs.length Sn.o.cap, .slice Sn.v.A nd.vars.length Sn.v.cap, .slice Sn.e.A nd.eqs.length Sn.e.cap, .int .i64 nd.line, .int .i64 nd.col] 62)
  have z_22 := alloc_size W21 (.cells #[.string nd.name, .slice Sn.i.A nd.ins.length Sn.i.cap, .slice Sn.o.A nd.outs.length Sn.o.cap, .slice Sn.v.A nd.vars.length Sn.v.cap, .slice Sn.e.A nd.eqs.length Sn.e.cap, .int .i64 nd.line, .int .i64 nd.col] 62)
  clear f_21
  generalize W21.heap.size = B at *
  generalize W21.alloc (.cells #[.string nd.name, .slice Sn.i.A nd.ins.length Sn.i.cap, .slice Sn.o.A nd.outs.length Sn.o.cap, .slice Sn.v.A nd.vars.length Sn.v.cap, .slice Sn.e.A nd.eqs.length Sn.e.cap, .int .i64 nd.line, .int .i64 nd.col] 62) = W22 at *
  have f_23 := f_22.alloc (.cells #[.slice (some ⟨B, 0, none⟩) 1 1] 37)
  have z_23 := alloc_size W22 (.cells #[.slice (some ⟨B, 0, none⟩) 1 1] 37)
  clear f_22
  generalize W22.heap.size = S at *
  generalize W22.alloc (.cells #[.slice (some ⟨B, 0, none⟩) 1 1] 37) = W23 at *
  rw [← z_22]
  clear z_22
  clear z_23
  obtain ⟨q0, hq0⟩ : ∃ q0, q0 = srcGo s l 17 [] (.ok 0) := ⟨_, rfl⟩
  have hsrcH := hid (show sourceOf s = q0 from by
    rw [hq0]
    unfold sourceOf
    rw [hsc])
  have hr0 : q0 = NG s l 16 [(nodeP s l (.ok 0)).1] m1 := by
    rw [hq0, src_NG 16 [] (m0 := .ok 0) (by rw [if_neg]; simp), hm1]
    rfl
  have hr0H := hid hr0
  have hm1H := hid hm1
  have hv1H := hid hv1
  clear hr0 hq0 hm1 hv1
  have f_30 := f_23.rot2.rot2
  have f_31 := (f_30.rot1.turn1 (x := nodesK Dn [LNode.mk nd Sn]) (fun _ h => h) (fun y hy => by obtain rfl : y = _ := List.mem_singleton.1 hy; exact f_30.rot1.head.q) (nodesK_ok _ _)).rot1
  have fs := Fr.rowOf (sz := 7) (n := 1) f_31 rfl (by decide)
  clear f_30 f_31 f_23
  skip
  go_loopg [] 16 (fun gk wr => ∃ (A : Option Addr) (n c : Nat) (xs : List LNode) (D : Nat → Prop) (m : Md) (g1 : List NodeE), n + gk = 17 ∧ xs.length = n ∧ PF s l P g w0 m wr (rowK w0 62 7 (.slice A n c) n (xs.flatMap LNode.cells) :: nodesK D xs :: blkK S (.cells #[.slice A n c] 37 (0, 0)) :: []) ∧ Hid (g1.length = n ∧ (∀ j, m = .ok j → n ≤ 16 ∧ xs.map (·.n) = g1) ∧ q0 = NG s l gk g1 m))
  case atStart =>
    refine ⟨some ⟨B, 0, none⟩, 1, 1, [LNode.mk nd Sn], Dn, m1, [(nodeP s l (.ok 0)).1], rfl, rfl, fs, hid ⟨rfl, fun j hj => ⟨by omega, by rw [← hv1H.out j hj]; rfl⟩, hr0H.out⟩⟩
  case round =>
    clear fs hr0H hm1H hv1H
    obtain ⟨A, n, c, xs, D, m, g1, hgk, hxn, f_90, hq⟩ := hrel
    obtain ⟨er, x0, x1, x2⟩ := f_90.err
    obtain ⟨i, crd, ⟨hlt_i, hj_i, hx1, hx2⟩, ⟨c0, c1, k0, k1, k2, k3, k4⟩, ⟨d0, d1, e0, e1, e2, e3, e4⟩⟩ := f_90.reads (.cells #[.int .i64 0, .int .i64 0] 25)
    go_upto_region 6 with fail
    go_cut [43] from 25 to 43 (fun t wx => t = .bool (!m.isBad && (tkN l i).kind != 5) ∧ PF s l P g w0 m wx (rowK w0 62 7 (.slice A n c) n (xs.flatMap LNode.cells) :: nodesK D xs :: blkK S (.cells #[.slice A n c] 37 (0, 0)) :: []))
    case first =>
      by_cases hb : m.isBad = true
      · have x3 : (er == 0) = false := by rw [x2, hb]; rfl
        have hbH := hid hb
        clear x1 x2 hb
        go_region
        all_goals
          go_wp2_with fail
          go_meet
          case rel => exact ⟨by rw [hbH.out]; rfl, f_90.drew⟩
      · have hb := eq_false_of_ne_true hb
        have x3 : (er == 0) = true := by rw [x2, hb]; rfl
        have hbH := hid hb
        clear x1 x2 hb
        go_region
        all_goals
          go_wp2_with fail
          go_meet
          case rel => exact ⟨by rw [hbH.out]; rfl, f_90.drew⟩
    case rest =>
      clear c0 c1 k0 k1 k2 k3 k4 d0 d1 e0 e1 e2 e3 e4 x0 x1 x2 f_90
      obtain ⟨rfl, f_91⟩ := hcut
      obtain ⟨ct, hct⟩ : ∃ x, x = (!m.isBad && (tkN l i).kind != 5) := ⟨_, rfl⟩
      have hctH := hid hct
      rw [← hct]
      clear hct
      cases ct with
      | false =>
        have hqz : q0 = (g1, m) := by
          rw [hq.out.2.2]
          refine if_pos ?_
          cases m with
          | bad a b c => exact .inl rfl
          | ok j =>
            obtain rfl := hj_i j rfl
            have h := hctH.out
            refine .inr ?_
            simpa [Md.isBad, Md.last, bne] using h
        have hgv := hid hq.out.2.1
        have hqzH := hid hqz
        clear hqz hq hctH hj_i hlt_i hx1 hx2
        cases m with
        | bad er ln cl =>
          skip
          have hsm2 := Fr.sm f_91
          obtain ⟨oP, f_j⟩ := fin.join f_91
          clear fin f_91
          simp only [List.cons_append, List.nil_append] at f_j
          obtain ⟨her, ip, hst⟩ := hsm2
          obtain ⟨c2, b0, pt, hpt, hPb, -⟩ := hst.blk
          have hoP := f_j.blk
          rw [hPb] at hoP
          injection hoP with hoP
          subst hoP
          clear hst hpt hPb
          have hbi : (er != 0) = true := by simp [her]
          have herH := hid her
          clear her
          obtain ⟨kP0, kP1, kP2, kP3, kP4, fP0, fP1, fP2, fP3, fP4⟩ := blk5 f_j.blk
          go_upto_region 11 with fail
          clear kP0 kP1 kP2 kP3 kP4 fP0 fP1 fP2 fP3 fP4 hbi
          obtain ⟨u0, u1⟩ := blk1 f_j.rot5.blk
          obtain ⟨a0, a1, a2, b0, b1, b2⟩ := blk3 f_j.rot6.blk
          obtain ⟨d0, d1, d2, e0, e1, e2⟩ := blk3 (Fr.set (n := 0) f_j.rot5 (.slice none 0 0)).rot6.blk
          obtain ⟨x00, x01, x02, x03, x04, x05, x06, x07, x08, x09⟩ := blk5 f_j.blk
          obtain ⟨y00, y01, y02, y03, y04, y05, y06, y07, y08, y09⟩ := blk5 (Fr.set (n := 0) f_j.rot5 (.slice none 0 0)).rot1.blk
          go_region
          all_goals
            go_wp2_with fail
            clear u0 u1 a0 a1 a2 b0 b1 b2 d0 d1 d2 e0 e1 e2 x00 y00 x01 y01 x02 y02 x03 y03 x04 y04 x05 y05 x06 y06 x07 y07 x08 y08 x09 y09
            have f_92 := Fr.set (n := 0) f_j.rot5 (.slice none 0 0)
            simp only [List.setIfInBounds_toArray, List.set_cons_zero] at f_92
            clear f_j
            generalize wc.setCell ⟨R, 0, none⟩ (.slice none 0 0) = W92 at *
            have f_93 := Fr.set3 f_92.rot6 (.int .i64 er) (.int .i64 ln) (.int .i64 cl)
            clear f_92
            generalize (((W92.setCell ⟨Fb, 0, none⟩ (.int .i64 er)).setCell ⟨Fb, 1, none⟩ (.int .i64 ln)).setCell ⟨Fb, 2, none⟩ (.int .i64 cl)) = W93 at *
            have f_94 := f_93.drew
            clear f_93
            generalize W93.drew = W94 at *
            obtain ⟨r0, -⟩ := blk1 f_94.rot1.blk
            obtain ⟨s0, s1, s2, -⟩ := blk3 f_94.blk
            try simp only [Exit.inBlock, Exit.then]
            refine bodyPost_ret (v := .tuple #[.agg #[.slice none 0 0], .agg #[.int .i64 er, .int .i64 ln, .int .i64 cl]]) (by simp [results, Try.results10, go_sem, r0, s0, s1, s2]) rfl ⟨f_94.low, ?_⟩
            rw [hsrcH.out, hqzH.out]
            exact ⟨herH.out, rfl⟩
        | ok j =>
          have hzH := hid (hgv.out j rfl).2
          obtain ⟨Dz, f_r⟩ := Fr.nrow f_91 hxn
          have hsm2 := Fr.sm f_91
          obtain ⟨oP, f_j⟩ := fin.join f_r
          clear fin f_r f_91
          simp only [List.cons_append, List.nil_append] at f_j
          obtain ⟨c2, k0, k1, k2, k3, k4, -⟩ := PSt.cells hsm2
          clear hsm2 k0 k1 k3 k4
          go_upto_region 12 with fail
          clear k2
          obtain ⟨u0, u1⟩ := blk1 f_j.rot4.blk
          obtain ⟨a0, a1, a2, b0, b1, b2⟩ := blk3 f_j.rot5.blk
          obtain ⟨d0, d1, d2, e0, e1, e2⟩ := blk3 (Fr.set (n := 0) f_j.rot4 (.slice A n c)).rot5.blk
          obtain ⟨x00, x01⟩ := blk1 f_j.rot2.blk
          obtain ⟨y00, y01⟩ := blk1 (Fr.set (n := 0) f_j.rot4 (.slice A n c)).rot3.blk
          go_wp2_with fail
          clear u0 u1 a0 a1 a2 b0 b1 b2 d0 d1 d2 e0 e1 e2 x00 y00 x01 y01
          have f_92 := Fr.set (n := 0) f_j.rot4 (.slice A n c)
          simp only [List.setIfInBounds_toArray, List.set_cons_zero] at f_92
          clear f_j
          generalize wc.setCell ⟨R, 0, none⟩ (.slice A n c) = W92 at *
          have f_93 := Fr.set3 f_92.rot5 (.int .i64 0) (.int .i64 0) (.int .i64 0)
          clear f_92
          generalize (((W92.setCell ⟨Fb, 0, none⟩ (.int .i64 0)).setCell ⟨Fb, 1, none⟩ (.int .i64 0)).setCell ⟨Fb, 2, none⟩ (.int .i64 0)) = W93 at *
          have fin := f_93.rot3
          have hz := fin.nrd
          obtain ⟨r0, -⟩ := blk1 f_93.rot1.blk
          obtain ⟨s0, s1, s2, -⟩ := blk3 f_93.blk
          try simp only [Exit.inBlock, Exit.then]
          refine bodyPost_ret (v := .tuple #[.agg #[.slice A n c], .agg #[.int .i64 0, .int .i64 0, .int .i64 0]]) (by simp [results, Try.results10, go_sem, r0, s0, s1, s2]) rfl ⟨f_93.low, ?_⟩
          rw [hsrcH.out, hqzH.out, ← hzH.out]
          exact ⟨⟨A, c⟩, by rw [List.length_map, hxn], hz.1, hz.2⟩
      | true =>
        obtain ⟨hb, hk5⟩ : m.isBad = false ∧ (tkN l i).kind ≠ 5 := by
          have h := hctH.out
          rw [eq_comm, Bool.and_eq_true] at h
          exact ⟨by simpa using h.1, by simpa using h.2⟩
        obtain ⟨j, rfl⟩ := not_bad hb
        obtain rfl : i = j := hj_i j rfl
        obtain ⟨hn16, hg1⟩ := hq.out.2.1 i rfl
        obtain ⟨gk, rfl⟩ : ∃ x, gk = x + 1 := ⟨gk - 1, by omega⟩
        have hqx : q0 = srcGo s l (gk + 1) (xs.map (·.n)) (.ok i) := by
          rw [hq.out.2.2, hg1]
          exact if_neg (by rw [hb]; simpa [Md.last] using hk5)
        have hqxH := hid hqx
        clear hqx hq hk5 hctH hg1 hb
        have hml : (xs.map (·.n)).length = n := by simpa using hxn
        obtain ⟨m0, hm0⟩ : ∃ m0, m0 = if (xs.map (·.n)).length = 16 ∧ (Md.ok i).is l wNode = true then (Md.ok i).err s l 3 else .ok i := ⟨_, rfl⟩
        have hm0H := hid hm0
        rw [hml] at hm0
        go_upto_region 7 with fail
        go_cut [51] from 44 to 51 (fun t wx => t = .bool (decide (n = 16) && (Md.ok i).is l wNode) ∧ PF s l P g w0 (.ok i) wx (rowK w0 62 7 (.slice A n c) n (xs.flatMap LNode.cells) :: nodesK D xs :: blkK S (.cells #[.slice A n c] 37 (0, 0)) :: []))
        case first =>
          clear hm0
          by_cases h16 : n = 16
          · have h16b : ((n : Int) == 16) = true := by simp [h16]
            have hdH := hid (show decide (n = 16) = true by simp [h16])
            clear h16 hn16 hgk
            obtain ⟨kS0, fS0⟩ := blk1 f_91.rot2.blk
            go_wp2_with fail
            clear kS0 fS0 h16b
            refine (ris_m f_91.sm ⟨#[110, 111, 100, 101]⟩).mono ?_
            rintro r W92 ⟨rfl, t_92, q_92⟩
            have f_92 := f_91.turn t_92 q_92
            clear f_91 t_92 q_92
            go_wp2_with fail
            go_meet
            case rel => exact ⟨by rw [hdH.out]; rfl, f_92⟩
          · have h16b : ((n : Int) == 16) = false := by simp; omega
            have hdH := hid (show decide (n = 16) = false by simp [h16])
            obtain ⟨kS0, fS0⟩ := blk1 f_91.rot2.blk
            go_wp2_with fail
            clear kS0 fS0 h16b
            go_meet
            case rel => exact ⟨by rw [hdH.out]; rfl, f_91⟩
        case rest =>
          clear f_91
          obtain ⟨rfl, f_92⟩ := hcut
          generalize hcd : (decide (n = 16) && (Md.ok i).is l wNode) = cd at *
          have hmc : m0 = if cd = true then (Md.ok i).err s l 3 else .ok i := by
            rw [hm0, ← hcd]
            by_cases h16 : n = 16 <;> cases hw : (Md.ok i).is l wNode <;> simp [h16]
          have hmcH := hid hmc
          clear hmc hm0 hcd
          go_upto_if 51 with fail
          obtain ⟨j, crd, ⟨hlt_j, hj_j, hx1, hx2⟩, ⟨c0, c1, k0, k1, k2, k3, k4⟩, ⟨d0, d1, e0, e1, e2, e3, e4⟩⟩ := f_92.reads (.cells #[.int .i64 0, .int .i64 0] 25)
          obtain rfl : j = i := hj_j i rfl
          go_cut [51] from 52 to 64 (fun _ wx => PF s l P g w0 m0 wx (rowK w0 62 7 (.slice A n c) n (xs.flatMap LNode.cells) :: nodesK D xs :: blkK S (.cells #[.slice A n c] 37 (0, 0)) :: []))
          case first =>
            cases cd with
            | false =>
              have hm := hmcH.out
              rw [if_neg (by simp)] at hm
              go_wp2_with fail
              go_meet
              case rel => exact hm ▸ f_92
            | true =>
              have hm := hmcH.out
              rw [if_pos rfl] at hm
              have hsH := hid f_92
              go_wp2_with fail
              go_region_with (go_at_call 18; (with_reducible refine (rfail_m (Fr.sm (Fr.drew hsH.out)) (e := 3) (by decide) _ _).mono ?_); rintro r W_r ⟨rfl, t_r, q_r⟩; have f_r := hid (Fr.turn (Fr.drew hsH.out) t_r q_r))
              all_goals
                go_wp2_with fail
                go_meet
                case rel => exact hm ▸ f_r.out
          case rest =>
            clear c0 c1 k0 k1 k2 k3 k4 d0 d1 e0 e1 e2 e3 e4 f_92
            have f_94 := hcut
            clear hcut
            go_upto_region 9 with fail
            have hsH := hid f_94
            obtain ⟨v0, v1⟩ := blk1 f_94.rot2.blk
            go_region_law (first | (refine Fr.stepApp ((f_r.alloc (.cells #[.string nd.name, .slice Sn.i.A nd.ins.length Sn.i.cap, .slice Sn.o.A nd.outs.length Sn.o.cap, .slice Sn.v.A nd.vars.length Sn.v.cap, .slice Sn.e.A nd.eqs.length Sn.e.cap, .int .i64 nd.line, .int .i64 nd.col] 62)).rot2.rot1) rfl _ _ _ rfl Try.underlying35 hiid hizd hisd hibd hicd (by decide) rfl rfl rfl node_one (by decide) (by unfold maxLen; omega) (by omega) ?_; intro GE capE W_a f_a; obtain ⟨z0, z1⟩ := blk1 f_a.rot4.blk; have f_z := Fr.set (n := 0) f_a.rot4 (.slice (some ⟨GE, 0, none⟩) (n + 1) capE); simp only [List.setIfInBounds_toArray, List.set_cons_zero] at f_z; have f_z := hid f_z) | (go_simp; go_at_call 25; (with_reducible refine (rnode_m hE hK (Fr.drew hsH.out)).mono ?_); rintro r W_r ⟨nd, Sn, Dn, m9, rfl, f_r, hm9, hv9⟩; obtain ⟨x0, x1⟩ := blk1 f_r.rot3.blk; obtain ⟨y0, y1⟩ := blk1 (f_r.alloc (.cells #[.string nd.name, .slice Sn.i.A nd.ins.length Sn.i.cap, .slice Sn.o.A nd.outs.length Sn.o.cap, .slice Sn.v.A nd.vars.length Sn.v.cap, .slice Sn.e.A nd.eqs.length Sn.e.cap, .int .i64 nd.line, .int .i64 nd.col] 62)).rot4.blk; replace hm9 := hid hm9; replace hv9 := hid hv9))
            all_goals
              go_wp2_with fail
              have f_q := f_z.out.rot2.tail.rot3.rot3.rot1
              have hr : xs.flatMap LNode.cells ++ (#[.string nd.name, .slice Sn.i.A nd.ins.length Sn.i.cap, .slice Sn.o.A nd.outs.length Sn.o.cap, .slice Sn.v.A nd.vars.length Sn.v.cap, .slice Sn.e.A nd.eqs.length Sn.e.cap, .int .i64 nd.line, .int .i64 nd.col] : Array Value).toList = (xs ++ [LNode.mk nd Sn]).flatMap LNode.cells := by
                simp [LNode.cells, Sl.v]
              rw [hr] at f_q
              clear hr
              have f_100 := (f_q.fuse (x := nodesK (fun n => D n ∨ Dn n) (xs ++ [LNode.mk nd Sn])) (fun _ h => h) (nodes_push f_q.head.q f_q.tail.head.q) (nodesK_ok _ _)).rot2
              go_roundg gk
              case measure => omega
              case rel =>
                refine ⟨_, n + 1, capE, xs ++ [LNode.mk nd Sn], _, m9, xs.map (·.n) ++ [(nodeP s l m0).1], by omega, by simp [hxn], f_100, hid ⟨by simp [hxn], fun k hk => ?_, by rw [hqxH.out, src_NG gk _ hm0H.out, hm9.out]⟩⟩
                have hlt : n < 16 := by
                  obtain ⟨i1, h1, h2⟩ := node_ok (hm9.out.symm.trans hk)
                  have hm := hm0H.out
                  by_cases h16 : n = 16
                  · by_cases hw : (Md.ok j).is l wNode = true
                    · rw [if_pos ⟨by omega, hw⟩] at hm; exact absurd (hm.symm.trans h1) (fun h => err_ok h)
                    · rw [if_neg (fun h => hw h.2)] at hm
                      injection (hm.symm.trans h1) with h3
                      subst h3
                      exact absurd h2 hw
                  · omega
                refine ⟨by omega, ?_⟩
                rw [List.map_append, ← hv9.out k hk]
                rfl
end Go.Proofs.Ytnlikhjmmnaknaa
