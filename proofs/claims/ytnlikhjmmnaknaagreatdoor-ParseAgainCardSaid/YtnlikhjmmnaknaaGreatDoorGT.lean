/-
  Texts of this claim, joined: SpE SpF SpG.
-/
import Derived.Test.YtnlikhjmmnaknaaGreatDoorGS
import Derived.Deep.CutRange
import Derived.Deep.LoopGhost
import Derived.Deep.RegionLaw
import Derived.Test.YtnlikhjmmnaknaaGreatDoorGP
/-
  The walk of the parser's equation (printed by gen_p4.py).
-/
namespace Go.Proofs.YtnlikhjmmnaknaaGreatDoor
open Go.RowKit


set_option maxHeartbeats 4000000 in
set_option maxRecDepth 100000 in
theorem eq_m {s : ByteArray} {l : List Tk} {P g : Nat} (hE : Ended l) (hK : TkOk s l) (n : Nat) (hn : n ≤ 48) {w0 w : World} {m : Md} {ks : List Kp} (f : PF s l P g w0 m w ks) :
    Calls Tryz.prog 45 #[.pointer (some ⟨P, 0, none⟩), .int .i64 n] w fun r w' => ∃ (q : EqE) (S : Sl) (A : Option Addr) (c : Nat) (D : Nat → Prop) (m' : Md), r = .returned (.agg #[.slice S.A q.left.length S.cap, .int .i64 q.right.op, .string q.right.name, .int .i64 q.right.num, .slice A q.right.k c, .int .i64 q.right.line, .int .i64 q.right.col, .int .i64 q.line, .int .i64 q.col]) ∧ PF s l P g w0 m' w' (eqK D q S A c :: ks) ∧ m' = (eqP s l n m).2 ∧ (∀ j, m' = .ok j → q = (eqP s l n m).1) := by
  go_enter Tryz.func45, Tryz.ntmps45
  go_wp2_with fail
  have f_1 := f.alloc (.cells #[.slice none 0 0, .int .i64 0, .string ⟨#[]⟩, .int .i64 0, .slice none 0 0, .int .i64 0, .int .i64 0, .int .i64 0, .int .i64 0] 79)
  have z_1 := alloc_size w (.cells #[.slice none 0 0, .int .i64 0, .string ⟨#[]⟩, .int .i64 0, .slice none 0 0, .int .i64 0, .int .i64 0, .int .i64 0, .int .i64 0] 79)
  clear f
  generalize w.heap.size = R at *
  generalize w.alloc (.cells #[.slice none 0 0, .int .i64 0, .string ⟨#[]⟩, .int .i64 0, .slice none 0 0, .int .i64 0, .int .i64 0, .int .i64 0, .int .i64 0] 79) = W1 at *
  clear z_1
  refine (now_m f_1.sm).mono ?_
  rintro r W2 ⟨i0, hlt_i0, hj_i0, rfl, b_2⟩
  have f_2 := f_1.below b_2
  clear f_1 b_2
  have hfd := field_at (.int .i64 (tkN l i0).kind) (.string (tkN l i0).text) (.int .i64 (tkN l i0).num) (lnN s l i0) (clN s l i0)
  go_upto_region 2 with fail
  clear hfd
  have f_3 := f_2.alloc (.cells #[.slice none 0 0, .int .i64 0, .string ⟨#[]⟩, .int .i64 0, .slice none 0 0, .int .i64 0, .int .i64 0, .int .i64 (lnN s l i0), .int .i64 (clN s l i0)] 79)
  have z_3 := alloc_size W2 (.cells #[.slice none 0 0, .int .i64 0, .string ⟨#[]⟩, .int .i64 0, .slice none 0 0, .int .i64 0, .int .i64 0, .int .i64 (lnN s l i0), .int .i64 (clN s l i0)] 79)
  clear f_2
  generalize W2.heap.size = Q at *
  generalize W2.alloc (.cells #[.slice none 0 0, .int .i64 0, .string ⟨#[]⟩, .int .i64 0, .slice none 0 0, .int .i64 0, .int .i64 0, .int .i64 (lnN s l i0), .int .i64 (clN s l i0)] 79) = W3 at *
  clear z_3
  go_cut [18] from 10 to 18 (fun t wx => ∃ c : Bool, t = .bool c ∧ PF s l P g w0 m wx (blkK Q (.cells #[.slice none 0 0, .int .i64 0, .string ⟨#[]⟩, .int .i64 0, .slice none 0 0, .int .i64 0, .int .i64 0, .int .i64 (lnN s l i0), .int .i64 (clN s l i0)] 79 (0, 0)) :: blkK R (.cells #[.slice none 0 0, .int .i64 0, .string ⟨#[]⟩, .int .i64 0, .slice none 0 0, .int .i64 0, .int .i64 0, .int .i64 0, .int .i64 0] 79 (0, 0)) :: ks) ∧ Hid (testQ s l n m = if n = 48 then (if c = true then m.err s l 21 else m).err s l 3 else if c = true then m.err s l 21 else m))
  case first =>
    go_wp2_with fail
    refine (now_m f_3.sm).mono ?_
    rintro r W4 ⟨i, hlt_i, hj_i, rfl, b_4⟩
    have f_4 := f_3.below b_4
    clear f_3 b_4
    by_cases hk : (tkN l i).kind = 1
    · have hkb : ((tkN l i).kind != 1) = false := by simp [hk]
      have hkH := hid hk
      clear hk
      have hfd := field_kind (tkN l i).kind (tkN l i).text (tkN l i).num (lnN s l i) (clN s l i)
      go_wp2_with fail
      clear hfd hkb
      go_meet
      case rel => exact ⟨false, rfl, f_4, testQ_yes hj_i (.inl hkH.out)⟩
    · have hkb : ((tkN l i).kind != 1) = true := by simp [hk]
      have hkH := hid hk
      clear hk
      have hfd := field_kind (tkN l i).kind (tkN l i).text (tkN l i).num (lnN s l i) (clN s l i)
      go_wp2_with fail
      clear hfd hkb
      by_cases ho : m.is l (⟨#[40]⟩ : ByteArray).data.toList = true
      · skip
        refine (is_val f_4.sm ho).mono ?_
        rintro r W5 ⟨rfl, b_5⟩
        have f_5 := f_4.below b_5
        clear f_4 b_5
        go_wp2_with fail
        go_meet
        case rel => exact ⟨false, rfl, f_5, testQ_yes hj_i (.inr ho)⟩
      · have ho := eq_false_of_ne_true ho
        refine (is_val f_4.sm ho).mono ?_
        rintro r W5 ⟨rfl, b_5⟩
        have f_5 := f_4.below b_5
        clear f_4 b_5
        go_wp2_with fail
        go_meet
        case rel => exact ⟨true, rfl, f_5, testQ_no hj_i hkH.out ho⟩
  case rest =>
    clear f_3
    obtain ⟨bt, rfl, f_40, htq⟩ := hcut
    generalize hma : (if bt = true then m.err s l 21 else m) = ma at *
    have hmaH := hid hma
    clear hma
    go_upto_if 18 with fail
    go_cut [18] from 19 to 22 (fun _ wx => PF s l P g w0 ma wx (blkK Q (.cells #[.slice none 0 0, .int .i64 0, .string ⟨#[]⟩, .int .i64 0, .slice none 0 0, .int .i64 0, .int .i64 0, .int .i64 (lnN s l i0), .int .i64 (clN s l i0)] 79 (0, 0)) :: blkK R (.cells #[.slice none 0 0, .int .i64 0, .string ⟨#[]⟩, .int .i64 0, .slice none 0 0, .int .i64 0, .int .i64 0, .int .i64 0, .int .i64 0] 79 (0, 0)) :: ks))
    case first =>
      cases bt with
      | false =>
        have hm := hmaH.out
        rw [if_neg (by simp)] at hm
        go_wp2_with fail
        go_meet
        case rel => exact hm ▸ f_40
      | true =>
        have hm := hmaH.out
        rw [if_pos rfl] at hm
        obtain ⟨kQ0, kQ1, kQ2, kQ3, kQ4, kQ5, kQ6, kQ7, kQ8, fQ0, fQ1, fQ2, fQ3, fQ4, fQ5, fQ6, fQ7, fQ8⟩ := blk9 f_40.blk
        go_wp2_with fail
        clear kQ0 kQ1 kQ2 kQ3 kQ4 kQ5 kQ6 kQ7 kQ8 fQ0 fQ1 fQ2 fQ3 fQ4 fQ5 fQ6 fQ7 fQ8
        refine (fail_m f_40.sm (e := 21) (by decide) (lnN s l i0) (clN s l i0)).mono ?_
        rintro r W41 ⟨rfl, t_41, q_41⟩
        have f_41 := f_40.turn t_41 q_41
        clear f_40 t_41 q_41
        rw [fail_err hj_i0, hm] at f_41
        go_wp2_with fail
        go_meet
        case rel => exact f_41
    case rest =>
      clear f_40
      have f_45 := hcut
      clear hcut
      have hja : ∀ j, ma = .ok j → i0 = j := fun j hj => by
        have hm := hmaH.out
        cases bt with
        | false => rw [if_neg (by simp)] at hm; exact hj_i0 j (hm.trans hj)
        | true => rw [if_pos rfl] at hm; exact absurd (hm.trans hj) (fun h => err_ok h)
      generalize hmt : testQ s l n m = mt at *
      have hmtH := hid hmt
      clear hmt
      go_upto_region 4 with fail
      go_upto_if 24 with fail
      go_cut [24] from 25 to 28 (fun _ wx => PF s l P g w0 mt wx (blkK Q (.cells #[.slice none 0 0, .int .i64 0, .string ⟨#[]⟩, .int .i64 0, .slice none 0 0, .int .i64 0, .int .i64 0, .int .i64 (lnN s l i0), .int .i64 (clN s l i0)] 79 (0, 0)) :: blkK R (.cells #[.slice none 0 0, .int .i64 0, .string ⟨#[]⟩, .int .i64 0, .slice none 0 0, .int .i64 0, .int .i64 0, .int .i64 0, .int .i64 0] 79 (0, 0)) :: ks))
      case first =>
        by_cases h48 : n = 48
        · have h48b : ((n : Int) == 48) = true := by simp [h48]
          have hm := htq.out
          rw [if_pos h48] at hm
          clear hn h48
          obtain ⟨kQ0, kQ1, kQ2, kQ3, kQ4, kQ5, kQ6, kQ7, kQ8, fQ0, fQ1, fQ2, fQ3, fQ4, fQ5, fQ6, fQ7, fQ8⟩ := blk9 f_45.blk
          go_wp2_with fail
          clear kQ0 kQ1 kQ2 kQ3 kQ4 kQ5 kQ6 kQ7 kQ8 fQ0 fQ1 fQ2 fQ3 fQ4 fQ5 fQ6 fQ7 fQ8 h48b
          refine (fail_m f_45.sm (e := 3) (by decide) (lnN s l i0) (clN s l i0)).mono ?_
          rintro r W46 ⟨rfl, t_46, q_46⟩
          have f_46 := f_45.turn t_46 q_46
          clear f_45 t_46 q_46
          rw [fail_err hja, ← hm] at f_46
          go_wp2_with fail
          go_meet
          case rel => exact f_46
        · have h48b : ((n : Int) == 48) = false := by simp; omega
          have hm := htq.out
          rw [if_neg h48] at hm
          go_wp2_with fail
          clear h48b
          go_meet
          case rel => exact hm ▸ f_45
      case rest =>
        clear f_45
        have f_50 := hcut
        clear hcut
        rw [← hmtH.out] at f_50
        obtain ⟨hle1, hle2⟩ := left_eq (s := s) (l := l) (m := m) n hn
        go_wp2_with fail
        refine (left_m hE hK f_50).mono ?_
        rintro r W51 ⟨A, nl, c, xs, D, m1, rfl, hxn, f_51, hm1, hv1⟩
        clear f_50
        rw [hle1] at hm1
        have hv1 : ∀ j, m1 = .ok j → xs = (leftP s l n m).1 := fun j hj => (hv1 j hj).trans (hle2 j (hm1.symm.trans hj))
        have hm1H := hid hm1
        have hv1H := hid hv1
        clear hm1 hv1 hle1 hle2
        obtain ⟨kQ0, kQ1, kQ2, kQ3, kQ4, kQ5, kQ6, kQ7, kQ8, fQ0, fQ1, fQ2, fQ3, fQ4, fQ5, fQ6, fQ7, fQ8⟩ := blk9 f_51.rot1.blk
        go_wp2_with fail
        clear kQ0 kQ1 kQ2 kQ3 kQ4 kQ5 kQ6 kQ7 kQ8 fQ0 fQ1 fQ2 fQ3 fQ4 fQ5 fQ6 fQ7 fQ8
        have f_52 := Fr.set (n := 0) f_51.rot1 (.slice A nl c)
        simp only [List.setIfInBounds_toArray, List.set_cons_zero] at f_52
        clear f_51
        generalize W51.setCell ⟨Q, 0, none⟩ (.slice A nl c) = W52 at *
        refine (want_m hE f_52.sm ⟨#[61]⟩).mono ?_
        rintro r W53 ⟨rfl, t_53, q_53⟩
        have f_53 := f_52.turn t_53 q_53
        clear f_52 t_53 q_53
        go_wp2_with fail
        refine (expr_any hE hK 64 (by omega) 0 (by omega) (by omega) (m1.want s l wEq) W53 f_53.sm).mono ?_
        rintro r W54 ⟨ex, Ax, cx, tx, mx, rfl, Gx⟩
        obtain ⟨Dx, f_54⟩ := f_53.expr Gx
        obtain ⟨lowx, topx, okx, camex⟩ := Gx.facts
        clear f_53 Gx
        simp only [Ex.val_eq]
        have hce := came_ex (s := s) (l := l) camex.out
        have hceH := hid hce
        clear hce camex
        obtain ⟨kQ0, kQ1, kQ2, kQ3, kQ4, kQ5, kQ6, kQ7, kQ8, fQ0, fQ1, fQ2, fQ3, fQ4, fQ5, fQ6, fQ7, fQ8⟩ := blk9 f_54.rot1.blk
        go_wp2_with fail
        clear kQ0 kQ1 kQ2 kQ3 kQ4 kQ5 kQ6 kQ7 kQ8 fQ0 fQ1 fQ2 fQ3 fQ4 fQ5 fQ6 fQ7 fQ8
        have f_55 := Fr.set (n := 1) f_54.rot1 (.int .i64 ex.op)
        simp only [List.setIfInBounds_toArray, List.set_cons_zero, List.set_cons_succ] at f_55
        clear f_54
        generalize W54.setCell ⟨Q, 1, none⟩ (.int .i64 ex.op) = W55 at *
        have f_56 := Fr.set (n := 2) f_55 (.string ex.name)
        simp only [List.setIfInBounds_toArray, List.set_cons_zero, List.set_cons_succ] at f_56
        clear f_55
        generalize W55.setCell ⟨Q, 2, none⟩ (.string ex.name) = W56 at *
        have f_57 := Fr.set (n := 3) f_56 (.int .i64 ex.num)
        simp only [List.setIfInBounds_toArray, List.set_cons_zero, List.set_cons_succ] at f_57
        clear f_56
        generalize W56.setCell ⟨Q, 3, none⟩ (.int .i64 ex.num) = W57 at *
        have f_58 := Fr.set (n := 4) f_57 (.slice Ax ex.k cx)
        simp only [List.setIfInBounds_toArray, List.set_cons_zero, List.set_cons_succ] at f_58
        clear f_57
        generalize W57.setCell ⟨Q, 4, none⟩ (.slice Ax ex.k cx) = W58 at *
        have f_59 := Fr.set (n := 5) f_58 (.int .i64 ex.line)
        simp only [List.setIfInBounds_toArray, List.set_cons_zero, List.set_cons_succ] at f_59
        clear f_58
        generalize W58.setCell ⟨Q, 5, none⟩ (.int .i64 ex.line) = W59 at *
        have f_60 := Fr.set (n := 6) f_59 (.int .i64 ex.col)
        simp only [List.setIfInBounds_toArray, List.set_cons_zero, List.set_cons_succ] at f_60
        clear f_59
        generalize W59.setCell ⟨Q, 6, none⟩ (.int .i64 ex.col) = W60 at *
        refine (want_m hE f_60.sm ⟨#[59]⟩).mono ?_
        rintro r W61 ⟨rfl, t_61, q_61⟩
        have f_61 := f_60.turn t_61 q_61
        clear f_60 t_61 q_61
        obtain ⟨kQ0, kQ1, kQ2, kQ3, kQ4, kQ5, kQ6, kQ7, kQ8, fQ0, fQ1, fQ2, fQ3, fQ4, fQ5, fQ6, fQ7, fQ8⟩ := blk9 f_61.blk
        obtain ⟨kR0, kR1, kR2, kR3, kR4, kR5, kR6, kR7, kR8, fR0, fR1, fR2, fR3, fR4, fR5, fR6, fR7, fR8⟩ := blk9 f_61.rot3.blk
        go_wp2_with fail
        clear kQ0 kQ1 kQ2 kQ3 kQ4 kQ5 kQ6 kQ7 kQ8 fQ0 fQ1 fQ2 fQ3 fQ4 fQ5 fQ6 fQ7 fQ8 kR0 kR1 kR2 kR3 kR4 kR5 kR6 kR7 kR8 fR0 fR1 fR2 fR3 fR4 fR5 fR6 fR7 fR8
        have f_62 := Fr.set9 f_61.rot3 (.slice A nl c) (.int .i64 ex.op) (.string ex.name) (.int .i64 ex.num) (.slice Ax ex.k cx) (.int .i64 ex.line) (.int .i64 ex.col) (.int .i64 (lnN s l i0)) (.int .i64 (clN s l i0))
        clear f_61
        generalize (((((((((W61.setCell ⟨R, 0, none⟩ (.slice A nl c)).setCell ⟨R, 1, none⟩ (.int .i64 ex.op)).setCell ⟨R, 2, none⟩ (.string ex.name)).setCell ⟨R, 3, none⟩ (.int .i64 ex.num)).setCell ⟨R, 4, none⟩ (.slice Ax ex.k cx)).setCell ⟨R, 5, none⟩ (.int .i64 ex.line)).setCell ⟨R, 6, none⟩ (.int .i64 ex.col)).setCell ⟨R, 7, none⟩ (.int .i64 (lnN s l i0))).setCell ⟨R, 8, none⟩ (.int .i64 (clN s l i0))) = W62 at *
        have fin := f_62.rot1.rot1.rot2.rot3
        obtain ⟨D3, fin2⟩ := fin.eqFold (hK i0).1 (hK i0).2.1
        have fin3 := fin2.rot1.tail.rot1.tail
        subst hxn
        have hp : eqP s l n m = (⟨(leftP s l n m).1, (exP s l ((leftP s l n m).2.want s l wEq)).1, m.ln s l, m.cl s l⟩, (exP s l ((leftP s l n m).2.want s l wEq)).2.want s l wSemi) := rfl
        rw [← hm1H.out] at hp
        rw [← hceH.out.1] at hp
        have hp1 : ∀ j, mx.want s l wSemi = .ok j → (⟨xs, ex, lnN s l i0, clN s l i0⟩ : EqE) = (eqP s l n m).1 := fun j hj => by
          obtain ⟨j1, h1⟩ := want_ok hj
          have h2 := hceH.out.2 j1 h1
          obtain ⟨j3, h3⟩ := ex_ok (hceH.out.1.symm.trans h1)
          obtain ⟨j4, h4⟩ := want_ok h3
          have h5 := hv1H.out j4 h4
          obtain ⟨⟨j6, rfl⟩, -⟩ := left_ok (hm1H.out.symm.trans h4)
          obtain rfl := hj_i0 j6 rfl
          rw [hp]
          show _ = EqE.mk _ _ _ _
          rw [h5, h2]
          rfl
        obtain ⟨r0, r1, r2, r3, r4, r5, r6, r7, r8, -⟩ := blk9 f_62.blk
        try simp only [Exit.inBlock, Exit.then]
        exact bodyPost_ret (v := .agg #[.slice A xs.length c, .int .i64 ex.op, .string ex.name, .int .i64 ex.num, .slice Ax ex.k cx, .int .i64 ex.line, .int .i64 ex.col, .int .i64 (lnN s l i0), .int .i64 (clN s l i0)]) (by simp [results, Tryz.results45, go_sem, r0, r1, r2, r3, r4, r5, r6, r7, r8]) rfl ⟨⟨xs, ex, lnN s l i0, clN s l i0⟩, ⟨A, c⟩, Ax, cx, D3, _, rfl, fin3, by rw [hp]; rfl, hp1⟩
end Go.Proofs.YtnlikhjmmnaknaaGreatDoor
/-
  The walk of the parser's node (printed by gen_p4.py).
-/
namespace Go.Proofs.YtnlikhjmmnaknaaGreatDoor
open Go.RowKit


set_option maxHeartbeats 4000000 in
set_option maxRecDepth 100000 in
theorem node_m {s : ByteArray} {l : List Tk} {P g : Nat} (hE : Ended l) (hK : TkOk s l) {w0 w : World} {m : Md} {ks : List Kp} (f : PF s l P g w0 m w ks) :
    Calls Tryz.prog 23 #[.pointer (some ⟨P, 0, none⟩)] w fun r w' => ∃ (n : NodeE) (S : NSl) (D : Nat → Prop) (m' : Md), r = .returned (.agg #[.string n.name, .slice S.i.A n.ins.length S.i.cap, .slice S.o.A n.outs.length S.o.cap, .slice S.v.A n.vars.length S.v.cap, .slice S.e.A n.eqs.length S.e.cap, .int .i64 n.line, .int .i64 n.col]) ∧ PF s l P g w0 m' w' (nodeK D n S :: ks) ∧ m' = (nodeP s l m).2 ∧ (∀ j, m' = .ok j → n = (nodeP s l m).1) := by
  obtain ⟨iq, zq, hiiq, hizq, hisq, hibq, hicq⟩ := info_Equation
  go_enter Tryz.func23, Tryz.ntmps23
  go_wp2_with fail
  have f_1 := f.alloc (.cells #[.string ⟨#[]⟩, .slice none 0 0, .slice none 0 0, .slice none 0 0, .slice none 0 0, .int .i64 0, .int .i64 0] 61)
  have z_1 := alloc_size w (.cells #[.string ⟨#[]⟩, .slice none 0 0, .slice none 0 0, .slice none 0 0, .slice none 0 0, .int .i64 0, .int .i64 0] 61)
  clear f
  generalize w.heap.size = R at *
  generalize w.alloc (.cells #[.string ⟨#[]⟩, .slice none 0 0, .slice none 0 0, .slice none 0 0, .slice none 0 0, .int .i64 0, .int .i64 0] 61) = W1 at *
  clear z_1
  refine (want_m hE f_1.sm ⟨#[110, 111, 100, 101]⟩).mono ?_
  rintro r W2 ⟨rfl, t_2, q_2⟩
  have f_2 := f_1.turn t_2 q_2
  clear f_1 t_2 q_2
  obtain ⟨a1, ha1⟩ : ∃ x, x = m.want s l wNode := ⟨_, rfl⟩
  have ha1 := hid ha1
  rw [show m.want s l (⟨#[110, 111, 100, 101]⟩ : ByteArray).data.toList = a1 from ha1.out.symm] at f_2
  go_wp2_with fail
  refine (name_m hE f_2.sm 0 1).mono ?_
  rintro r W3 ⟨k, hlt_k, hj_k, rfl, t_3, q_3⟩
  have f_3 := f_2.turn t_3 q_3
  clear f_2 t_3 q_3
  obtain ⟨a2, ha2⟩ : ∃ x, x = a1.name s l false := ⟨_, rfl⟩
  have ha2 := hid ha2
  rw [show a1.name s l (decide ((1 : Int) ≤ 0)) = a2 from ha2.out.symm] at f_3
  go_upto_region 3 with fail
  have f_4 := f_3.alloc (.cells #[.int .i64 (tkN l k).kind, .string (tkN l k).text, .int .i64 (tkN l k).num, .int .i64 (lnN s l k), .int .i64 (clN s l k)] 56)
  have z_4 := alloc_size W3 (.cells #[.int .i64 (tkN l k).kind, .string (tkN l k).text, .int .i64 (tkN l k).num, .int .i64 (lnN s l k), .int .i64 (clN s l k)] 56)
  clear f_3
  generalize W3.heap.size = T at *
  generalize W3.alloc (.cells #[.int .i64 (tkN l k).kind, .string (tkN l k).text, .int .i64 (tkN l k).num, .int .i64 (lnN s l k), .int .i64 (clN s l k)] 56) = W4 at *
  clear z_4
  obtain ⟨kT0, kT1, kT2, kT3, kT4, fT0, fT1, fT2, fT3, fT4⟩ := blk5 f_4.blk
  go_upto_region 4 with fail
  clear kT0 kT1 kT2 kT3 kT4 fT0 fT1 fT2 fT3 fT4
  have f_5 := f_4.alloc (.cells #[.string (tkN l k).text, .slice none 0 0, .slice none 0 0, .slice none 0 0, .slice none 0 0, .int .i64 (lnN s l k), .int .i64 (clN s l k)] 61)
  have z_5 := alloc_size W4 (.cells #[.string (tkN l k).text, .slice none 0 0, .slice none 0 0, .slice none 0 0, .slice none 0 0, .int .i64 (lnN s l k), .int .i64 (clN s l k)] 61)
  clear f_4
  generalize W4.heap.size = N at *
  generalize W4.alloc (.cells #[.string (tkN l k).text, .slice none 0 0, .slice none 0 0, .slice none 0 0, .slice none 0 0, .int .i64 (lnN s l k), .int .i64 (clN s l k)] 61) = W5 at *
  clear z_5
  have f_60 := f_5.rot2.rot1.rot2
  have f_61 := f_60.tail
  clear f_60 f_5
  go_wp2_with fail
  refine (ports_m hE hK f_61).mono ?_
  rintro r W62 ⟨A1, n1, c1, vs1, D1, a3, rfl, hn1, f_62, ha3, hv1⟩
  clear f_61
  have ha3 := hid ha3
  have hv1 := hid hv1
  obtain ⟨kN0, kN1, kN2, kN3, kN4, kN5, kN6, fN0, fN1, fN2, fN3, fN4, fN5, fN6⟩ := blk7 f_62.rot1.blk
  go_wp2_with fail
  clear kN0 kN1 kN2 kN3 kN4 kN5 kN6 fN0 fN1 fN2 fN3 fN4 fN5 fN6
  have f_63 := Fr.set (n := 1) f_62.rot1 (.slice A1 n1 c1)
  simp only [List.setIfInBounds_toArray, List.set_cons_zero, List.set_cons_succ] at f_63
  clear f_62
  generalize W62.setCell ⟨N, 1, none⟩ (.slice A1 n1 c1) = W63 at *
  refine (want_m hE f_63.sm ⟨#[114, 101, 116, 117, 114, 110, 115]⟩).mono ?_
  rintro r W64 ⟨rfl, t_64, q_64⟩
  have f_64 := f_63.turn t_64 q_64
  clear f_63 t_64 q_64
  obtain ⟨a4, ha4⟩ : ∃ x, x = a3.want s l wRet := ⟨_, rfl⟩
  have ha4 := hid ha4
  rw [show a3.want s l (⟨#[114, 101, 116, 117, 114, 110, 115]⟩ : ByteArray).data.toList = a4 from ha4.out.symm] at f_64
  go_wp2_with fail
  refine (ports_m hE hK f_64).mono ?_
  rintro r W65 ⟨A2, n2, c2, vs2, D2, a5, rfl, hn2, f_65, ha5, hv2⟩
  clear f_64
  have ha5 := hid ha5
  have hv2 := hid hv2
  obtain ⟨kN0, kN1, kN2, kN3, kN4, kN5, kN6, fN0, fN1, fN2, fN3, fN4, fN5, fN6⟩ := blk7 f_65.rot1.blk
  go_wp2_with fail
  clear kN0 kN1 kN2 kN3 kN4 kN5 kN6 fN0 fN1 fN2 fN3 fN4 fN5 fN6
  have f_66 := Fr.set (n := 2) f_65.rot1 (.slice A2 n2 c2)
  simp only [List.setIfInBounds_toArray, List.set_cons_zero, List.set_cons_succ] at f_66
  clear f_65
  generalize W65.setCell ⟨N, 2, none⟩ (.slice A2 n2 c2) = W66 at *
  refine (want_m hE f_66.sm ⟨#[59]⟩).mono ?_
  rintro r W67 ⟨rfl, t_67, q_67⟩
  have f_67 := f_66.turn t_67 q_67
  clear f_66 t_67 q_67
  obtain ⟨a6, ha6⟩ : ∃ x, x = a5.want s l wSemi := ⟨_, rfl⟩
  have ha6 := hid ha6
  rw [show a5.want s l (⟨#[59]⟩ : ByteArray).data.toList = a6 from ha6.out.symm] at f_67
  go_wp2_with fail
  refine (locals_m hE hK f_67).mono ?_
  rintro r W68 ⟨A3, n3, c3, vs3, D3, a7, rfl, hn3, f_68, ha7, hv3⟩
  clear f_67
  have ha7 := hid ha7
  have hv3 := hid hv3
  obtain ⟨kN0, kN1, kN2, kN3, kN4, kN5, kN6, fN0, fN1, fN2, fN3, fN4, fN5, fN6⟩ := blk7 f_68.rot1.blk
  go_wp2_with fail
  clear kN0 kN1 kN2 kN3 kN4 kN5 kN6 fN0 fN1 fN2 fN3 fN4 fN5 fN6
  have f_69 := Fr.set (n := 3) f_68.rot1 (.slice A3 n3 c3)
  simp only [List.setIfInBounds_toArray, List.set_cons_zero, List.set_cons_succ] at f_69
  clear f_68
  generalize W68.setCell ⟨N, 3, none⟩ (.slice A3 n3 c3) = W69 at *
  refine (want_m hE f_69.sm ⟨#[108, 101, 116]⟩).mono ?_
  rintro r W70 ⟨rfl, t_70, q_70⟩
  have f_70 := f_69.turn t_70 q_70
  clear f_69 t_70 q_70
  obtain ⟨a8, ha8⟩ : ∃ x, x = a7.want s l wLet := ⟨_, rfl⟩
  have ha8 := hid ha8
  rw [show a7.want s l (⟨#[108, 101, 116]⟩ : ByteArray).data.toList = a8 from ha8.out.symm] at f_70
  go_wp2_with fail
  obtain ⟨q0, hq0⟩ : ∃ q0, q0 = eqsGo s l 49 [] a8 := ⟨_, rfl⟩
  have hq0H := hid hq0
  have hnp : nodeP s l m = (⟨a1.text l, (portsP s l a2).1, (portsP s l a4).1, (localsP s l a6).1, q0.1, a1.ln s l, a1.cl s l⟩, q0.2) := by
    rw [hq0, ha8.out, ha7.out, ha6.out, ha5.out, ha4.out, ha3.out, ha2.out, ha1.out]
    rfl
  have hnd : ∀ j, q0.2 = .ok j → (⟨(tkN l k).text, vs1, vs2, vs3, q0.1, lnN s l k, clN s l k⟩ : NodeE) = (nodeP s l m).1 := fun j hj => by
    rw [hq0] at hj
    obtain ⟨j8, h8⟩ := eqs_go 49 [] (by simp) (by simp) hj
    obtain ⟨j7, h7⟩ := want_ok (ha8.out.symm.trans h8)
    have e3 := hv3.out j7 h7
    obtain ⟨j6, h6⟩ := locals_ok (ha7.out.symm.trans h7)
    obtain ⟨j5, h5⟩ := want_ok (ha6.out.symm.trans h6)
    have e2 := hv2.out j5 h5
    obtain ⟨j4, h4⟩ := ports_ok (ha5.out.symm.trans h5)
    obtain ⟨j3, h3⟩ := want_ok (ha4.out.symm.trans h4)
    have e1 := hv1.out j3 h3
    obtain ⟨j2, h2⟩ := ports_ok (ha3.out.symm.trans h3)
    obtain ⟨j1, h1, _⟩ := name_ok (ha2.out.symm.trans h2)
    obtain rfl := hj_k j1 h1
    rw [hnp, e1, e2, e3, h1]
    rfl
  have hnpH := hid (show (nodeP s l m).2 = q0.2 by rw [hnp])
  have hndH := hid hnd
  clear hnp hnd hv1 hv2 hv3 ha1 ha2 ha3 ha4 ha5 ha6 ha7 ha8 hj_k hlt_k
  have f_80 := f_70.rot4.rot4.rot4.rot4.rot4
  have fs := f_80.noEqs
  clear f_80 f_70
  go_loopg [] 49 (fun gk wr => ∃ (A : Option Addr) (n c : Nat) (qs : List LEq) (D : Nat → Prop) (m1 : Md), n + gk = 49 ∧ qs.length = n ∧ PF s l P g w0 m1 wr (rowK w0 79 9 (.slice A n c) n (qs.flatMap LEq.cells) :: eqsK D qs :: blkK N (.cells #[.string (tkN l k).text, .slice A1 n1 c1, .slice A2 n2 c2, .slice A3 n3 c3, .slice A n c, .int .i64 (lnN s l k), .int .i64 (clN s l k)] 61 (0, 0)) :: vrowK D3 ⟨A3, c3⟩ vs3 :: vrowK D2 ⟨A2, c2⟩ vs2 :: vrowK D1 ⟨A1, c1⟩ vs1 :: blkK R (.cells #[.string ⟨#[]⟩, .slice none 0 0, .slice none 0 0, .slice none 0 0, .slice none 0 0, .int .i64 0, .int .i64 0] 61 (0, 0)) :: ks) ∧ Hid ((m1.isBad = true → q0.2 = m1) ∧ (m1.isBad = false → n ≤ 48 ∧ q0 = eqsGo s l gk (qs.map (·.q)) m1)))
  case atStart => exact ⟨none, 0, 0, [], _, a8, rfl, rfl, fs, hid ⟨fun h => by rw [hq0, eqs_bad h], fun h => ⟨by omega, hq0⟩⟩⟩
  case round =>
    clear fs hq0
    obtain ⟨A, n, c, qs, D, m1, hgk, hqn, f_90, hq⟩ := hrel
    go_wp2_with fail
    refine (bad_m f_90.sm).mono ?_
    rintro r W91 ⟨rfl, rfl⟩
    by_cases hb : m1.isBad = true
    · rw [hb]
      obtain ⟨kN0, kN1, kN2, kN3, kN4, kN5, kN6, fN0, fN1, fN2, fN3, fN4, fN5, fN6⟩ := blk7 f_90.rot2.blk
      obtain ⟨kR0, kR1, kR2, kR3, kR4, kR5, kR6, fR0, fR1, fR2, fR3, fR4, fR5, fR6⟩ := blk7 f_90.rot6.blk
      go_wp2_with fail
      clear kN0 kN1 kN2 kN3 kN4 kN5 kN6 fN0 fN1 fN2 fN3 fN4 fN5 fN6 kR0 kR1 kR2 kR3 kR4 kR5 kR6 fR0 fR1 fR2 fR3 fR4 fR5 fR6
      have f_92 := Fr.set7 f_90.rot6 (.string (tkN l k).text) (.slice A1 n1 c1) (.slice A2 n2 c2) (.slice A3 n3 c3) (.slice A n c) (.int .i64 (lnN s l k)) (.int .i64 (clN s l k))
      clear f_90
      generalize (((((((wr.setCell ⟨R, 0, none⟩ (.string (tkN l k).text)).setCell ⟨R, 1, none⟩ (.slice A1 n1 c1)).setCell ⟨R, 2, none⟩ (.slice A2 n2 c2)).setCell ⟨R, 3, none⟩ (.slice A3 n3 c3)).setCell ⟨R, 4, none⟩ (.slice A n c)).setCell ⟨R, 5, none⟩ (.int .i64 (lnN s l k))).setCell ⟨R, 6, none⟩ (.int .i64 (clN s l k))) = W92 at *
      have fin := f_92.rot3.rot1.rot6.rot6.rot6.rot6.rot6
      obtain ⟨De, fin2⟩ := fin.erow hqn
      obtain ⟨Dn, fin3⟩ := Fr.nodeFold (fin2.rot1.rot2.rot3) (name := (tkN l k).text) (hK k).2.2.1 (hK k).1 (hK k).2.1
      have fin4 := fin3.rot1.tail.rot1.tail
      have hqm : qs.length = (qs.map (·.q)).length := by simp
      obtain ⟨r0, r1, r2, r3, r4, r5, r6, -⟩ := blk7 f_92.blk
      try simp only [Exit.inBlock, Exit.then]
      refine bodyPost_ret (v := .agg #[.string (tkN l k).text, .slice A1 n1 c1, .slice A2 n2 c2, .slice A3 n3 c3, .slice A n c, .int .i64 (lnN s l k), .int .i64 (clN s l k)]) (by simp [results, Tryz.results23, go_sem, r0, r1, r2, r3, r4, r5, r6]) rfl ⟨⟨(tkN l k).text, vs1, vs2, vs3, qs.map (fun x : LEq => x.q), lnN s l k, clN s l k⟩, ⟨⟨A1, c1⟩, ⟨A2, c2⟩, ⟨A3, c3⟩, ⟨A, c⟩⟩, Dn, m1, ?_, fin4, (by rw [hnpH.out, hq.out.1 hb]), (fun j hj => by rw [hj] at hb; cases hb)⟩
      rw [hn1, hn2, hn3, ← hqm, hqn]
    · have hb := eq_false_of_ne_true hb
      rw [hb]
      obtain ⟨hn48, hqx⟩ := hq.out.2 hb
      have hqxH := hid hqx
      clear hqx hq
      obtain ⟨gk, rfl⟩ : ∃ x, gk = x + 1 := ⟨gk - 1, by omega⟩
      go_upto_region 11 with fail
      have hsH := hid f_90
      obtain ⟨kvN0, kvN1, kvN2, kvN3, kvN4, kvN5, kvN6, fvN0, fvN1, fvN2, fvN3, fvN4, fvN5, fvN6⟩ := blk7 f_90.rot2.blk
      go_region_law (first | (refine Fr.stepApp ((f_r.alloc (.cells #[.slice Sq.A q.left.length Sq.cap, .int .i64 q.right.op, .string q.right.name, .int .i64 q.right.num, .slice Aq q.right.k cq, .int .i64 q.right.line, .int .i64 q.right.col, .int .i64 q.line, .int .i64 q.col] 79)).rot2.rot1) rfl _ _ _ rfl Tryz.underlying59 hiiq hizq hisq hibq hicq (by decide) rfl rfl rfl eq_one (by decide) (by unfold maxLen; omega) (by omega) ?_; intro GE capE W_a f_a; obtain ⟨kxN0, kxN1, kxN2, kxN3, kxN4, kxN5, kxN6, fxN0, fxN1, fxN2, fxN3, fxN4, fxN5, fxN6⟩ := blk7 f_a.rot4.blk; have f_z := Fr.set (n := 4) f_a.rot4 (.slice (some ⟨GE, 0, none⟩) (n + 1) capE); simp only [List.setIfInBounds_toArray, List.set_cons_zero, List.set_cons_succ] at f_z; have f_z := hid f_z) | (go_simp; go_at_call 45; (with_reducible refine (eq_m hE hK n (by omega) (Fr.drew hsH.out)).mono ?_); rintro r W_r ⟨q, Sq, Aq, cq, Dq, m9, rfl, f_r, hm9, hv9⟩; obtain ⟨kuN0, kuN1, kuN2, kuN3, kuN4, kuN5, kuN6, fuN0, fuN1, fuN2, fuN3, fuN4, fuN5, fuN6⟩ := blk7 f_r.rot3.blk; obtain ⟨kwN0, kwN1, kwN2, kwN3, kwN4, kwN5, kwN6, fwN0, fwN1, fwN2, fwN3, fwN4, fwN5, fwN6⟩ := blk7 (f_r.alloc (.cells #[.slice Sq.A q.left.length Sq.cap, .int .i64 q.right.op, .string q.right.name, .int .i64 q.right.num, .slice Aq q.right.k cq, .int .i64 q.right.line, .int .i64 q.right.col, .int .i64 q.line, .int .i64 q.col] 79)).rot4.blk; have hm9 := hid hm9; have hv9 := hid hv9))
      all_goals
        have f_q := f_z.out.rot2.tail.rot3.rot3.rot1
        have hr : qs.flatMap LEq.cells ++ (#[.slice Sq.A q.left.length Sq.cap, .int .i64 q.right.op, .string q.right.name, .int .i64 q.right.num, .slice Aq q.right.k cq, .int .i64 q.right.line, .int .i64 q.right.col, .int .i64 q.line, .int .i64 q.col] : Array Value).toList = (qs ++ [LEq.mk q Sq Aq cq]).flatMap LEq.cells := by
          simp [LEq.cells, Sl.v]
        rw [hr] at f_q
        clear hr
        have f_100 := (f_q.fuse (x := eqsK (fun n => D n ∨ Dq n) (qs ++ [LEq.mk q Sq Aq cq])) (fun _ h => h) (eqs_push f_q.head.q f_q.tail.head.q) (eqsK_ok _ _)).rot2
        have hqn2 : (qs ++ [LEq.mk q Sq Aq cq]).length = n + 1 := by simp [hqn]
        have hqm2 : (qs ++ [LEq.mk q Sq Aq cq]).map (·.q) = qs.map (·.q) ++ [q] := by simp
        have hml : (qs.map (·.q)).length = n := by simpa using hqn
        have hm9p : (eqP s l (qs.map (·.q)).length m1).2 = m9 := by rw [hml]; exact hm9.out.symm
        have hq9p : ∀ j, m9 = .ok j → q = (eqP s l (qs.map (·.q)).length m1).1 := fun j hj => by rw [hml]; exact hv9.out j hj
        generalize (qs ++ [LEq.mk q Sq Aq cq]) = zs at *
        clear hsH f_z f_q f_90 kvN0 kvN1 kvN2 kvN3 kvN4 kvN5 kvN6 fvN0 fvN1 fvN2 fvN3 fvN4 fvN5 fvN6 kuN0 kuN1 kuN2 kuN3 kuN4 kuN5 kuN6 fuN0 fuN1 fuN2 fuN3 fuN4 fuN5 fuN6 kwN0 kwN1 kwN2 kwN3 kwN4 kwN5 kwN6 fwN0 fwN1 fwN2 fwN3 fwN4 fwN5 fwN6 kxN0 kxN1 kxN2 kxN3 kxN4 kxN5 kxN6 fxN0 fxN1 fxN2 fxN3 fxN4 fxN5 fxN6
        have hm9H := hid hm9p
        have hq9H := hid hq9p
        clear hm9p hq9p hm9 hv9
        go_wp2_with fail
        by_cases h0 : m9.is l (⟨#[116, 101, 108]⟩ : ByteArray).data.toList = true
        · have hqz : q0 = (qs.map (·.q) ++ [(eqP s l (qs.map (·.q)).length m1).1], m9.take l wTel) := by
            rw [hqxH.out]
            exact eqs_stop hm9H.out (.inr h0)
          have hqzH := hid hqz
          clear hqz hqxH
          refine (take_m hE f_100.sm ⟨#[116, 101, 108]⟩).mono ?_
          rintro r W101 ⟨rfl, t_101, q_101⟩
          have f_101 := f_100.turn t_101 q_101
          clear f_100 t_101 q_101
          rw [h0]
          skip
          obtain ⟨kN0, kN1, kN2, kN3, kN4, kN5, kN6, fN0, fN1, fN2, fN3, fN4, fN5, fN6⟩ := blk7 f_101.rot2.blk
          obtain ⟨kR0, kR1, kR2, kR3, kR4, kR5, kR6, fR0, fR1, fR2, fR3, fR4, fR5, fR6⟩ := blk7 f_101.rot6.blk
          go_wp2_with fail
          clear kN0 kN1 kN2 kN3 kN4 kN5 kN6 fN0 fN1 fN2 fN3 fN4 fN5 fN6 kR0 kR1 kR2 kR3 kR4 kR5 kR6 fR0 fR1 fR2 fR3 fR4 fR5 fR6
          have f_102 := Fr.set7 f_101.rot6 (.string (tkN l k).text) (.slice A1 n1 c1) (.slice A2 n2 c2) (.slice A3 n3 c3) (.slice (some ⟨GE, 0, none⟩) (n + 1) capE) (.int .i64 (lnN s l k)) (.int .i64 (clN s l k))
          clear f_101
          generalize (((((((W101.setCell ⟨R, 0, none⟩ (.string (tkN l k).text)).setCell ⟨R, 1, none⟩ (.slice A1 n1 c1)).setCell ⟨R, 2, none⟩ (.slice A2 n2 c2)).setCell ⟨R, 3, none⟩ (.slice A3 n3 c3)).setCell ⟨R, 4, none⟩ (.slice (some ⟨GE, 0, none⟩) (n + 1) capE)).setCell ⟨R, 5, none⟩ (.int .i64 (lnN s l k))).setCell ⟨R, 6, none⟩ (.int .i64 (clN s l k))) = W102 at *
          have fin := f_102.rot3.rot1.rot6.rot6.rot6.rot6.rot6
          obtain ⟨De, fin2⟩ := fin.erow hqn2
          obtain ⟨Dn, fin3⟩ := Fr.nodeFold (fin2.rot1.rot2.rot3) (name := (tkN l k).text) (hK k).2.2.1 (hK k).1 (hK k).2.1
          have fin4 := fin3.rot1.tail.rot1.tail
          have hqm : zs.length = (zs.map (·.q)).length := by simp
          obtain ⟨r0, r1, r2, r3, r4, r5, r6, -⟩ := blk7 f_102.blk
          try simp only [Exit.inBlock, Exit.then]
          refine bodyPost_ret (v := .agg #[.string (tkN l k).text, .slice A1 n1 c1, .slice A2 n2 c2, .slice A3 n3 c3, .slice (some ⟨GE, 0, none⟩) (n + 1) capE, .int .i64 (lnN s l k), .int .i64 (clN s l k)]) (by simp [results, Tryz.results23, go_sem, r0, r1, r2, r3, r4, r5, r6]) rfl ⟨⟨(tkN l k).text, vs1, vs2, vs3, zs.map (fun x : LEq => x.q), lnN s l k, clN s l k⟩, ⟨⟨A1, c1⟩, ⟨A2, c2⟩, ⟨A3, c3⟩, ⟨(some ⟨GE, 0, none⟩), capE⟩⟩, Dn, (m9.take l wTel), ?_, fin4, (by rw [hnpH.out, hqzH.out]; skip), (fun j hj => by have h9 := (take_ok hj).choose_spec; rw [← hndH.out j (by rw [hqzH.out]; exact hj), hqzH.out, hqm2, hq9H.out _ h9])⟩
          rw [hn1, hn2, hn3, ← hqm, hqn2]
        · have h0 := eq_false_of_ne_true h0
          refine (take_no hE f_100.sm h0).mono ?_
          rintro r W101 ⟨rfl, t_101, q_101⟩
          have f_101 := f_100.turn t_101 q_101
          clear f_100 t_101 q_101
          go_wp2_with fail
          go_roundg gk
          case measure => omega
          case rel =>
            refine ⟨_, n + 1, capE, zs, _, m9, by omega, hqn2, f_101, hid ⟨fun hb9 => ?_, fun hb9 => ?_⟩⟩
            · rw [hqxH.out, eqs_stop hm9H.out (.inl hb9)]
              exact (bad_keep (s := s) hb9).1 _
            · obtain ⟨j9, hj9⟩ := not_bad hb9
              have hlt := (eq_ok (hm9H.out.trans hj9)).2 (by omega)
              refine ⟨by omega, ?_⟩
              rw [hqxH.out, hqm2, hq9H.out j9 hj9]
              exact eqs_more hm9H.out hb9 h0
end Go.Proofs.YtnlikhjmmnaknaaGreatDoor
/-
  The walk of parse.Source (printed by gen_p4.py).
-/
namespace Go.Proofs.YtnlikhjmmnaknaaGreatDoor
open Go.RowKit

theorem blk1 {w : World} {T : Nat} {v0 : Value} {t : TypeId} (h : w.heap[T]? = some (.cells #[v0] t (0, 0))) : w.cell? ⟨T, 0, none⟩ = some v0 ∧ w.frozen? ⟨T, 0, none⟩ = false := ⟨Lib.cell_of_heap h 0, frozen_none h⟩
theorem Fr.nrd {D : Nat → Prop} {S : Sl} {xs : List NodeE} {w0 w : World} {ks : List Kp} (h : Fr none (fun _ => True) w0 w (nrowK D S xs :: ks)) : S.fits xs.length ∧ SlAt 7 (NodeIn (Iv w0.heap.size w.heap.size) w) S.A xs :=
  ⟨h.head.q.1, h.head.q.2.imp fun _ _ _ => NodeIn.keep stay_rfl fun n hn => ⟨h.head.lo n hn, h.head.hi n hn⟩⟩
def SrcPost (s : ByteArray) (w : World) (r : Ending) (w' : World) : Prop := Below w.heap.size w w' ∧ match sourceOf s with
  | (xs, .ok _) => ∃ S : Sl, r = .returned (.tuple #[.agg #[.slice S.A xs.length S.cap], .agg #[.int .i64 0, .int .i64 0, .int .i64 0]]) ∧ S.fits xs.length ∧ SlAt 7 (NodeIn (Iv w.heap.size w'.heap.size) w') S.A xs
  | (_, .bad er ln cl) => er ≠ 0 ∧ r = .returned (.tuple #[.agg #[.slice none 0 0], .agg #[.int .i64 er, .int .i64 ln, .int .i64 cl]])

set_option maxHeartbeats 4000000 in
set_option maxRecDepth 100000 in
theorem source_none (s : ByteArray) (w : World) (hs : s.size ≤ maxLen) {e : Int} {p : Nat} (hsc : scanOf s = .bad e p) : Calls Tryz.prog 6 #[.string s] w (SrcPost s w) := by
  go_enter Tryz.func6, Tryz.ntmps6
  have f_0 := Fr.start0 w
  go_wp2_with fail
  have f_1 := f_0.alloc (.cells #[.slice none 0 0] 25)
  have z_1 := alloc_size w (.cells #[.slice none 0 0] 25)
  clear f_0
  generalize w.heap.size = R at *
  generalize w.alloc (.cells #[.slice none 0 0] 25) = W1 at *
  have f_2 := f_1.alloc (.cells #[.int .i64 0, .int .i64 0, .int .i64 0] 30)
  have z_2 := alloc_size W1 (.cells #[.int .i64 0, .int .i64 0, .int .i64 0] 30)
  clear f_1
  generalize W1.heap.size = Fb at *
  generalize W1.alloc (.cells #[.int .i64 0, .int .i64 0, .int .i64 0] 30) = W2 at *
  rw [← z_1]
  clear z_1
  clear z_2
  refine (scan_any s _ hs).mono ?_
  rintro r W9 ⟨hb, hm⟩
  rw [hsc] at hm
  obtain rfl := hm
  have f_9 := f_2.below hb
  clear hb f_2
  have he : (e != 0) = true := by have := scan_bad hsc; simp only [bne, this]; rfl
  generalize hln : (place s p).1 = ln at *
  generalize hcl : (place s p).2 = cl at *
  have hlnH := hid hln
  have hclH := hid hcl
  clear hln hcl
  go_upto_region 2 with fail
  have f_10 := f_9.alloc (.cells #[.int .i64 e, .int .i64 ln, .int .i64 cl] 30)
  have z_10 := alloc_size W9 (.cells #[.int .i64 e, .int .i64 ln, .int .i64 cl] 30)
  clear f_9
  generalize W9.heap.size = Fc at *
  generalize W9.alloc (.cells #[.int .i64 e, .int .i64 ln, .int .i64 cl] 30) = W10 at *
  clear z_10
  obtain ⟨c0, c1, c2, z0, z1, z2⟩ := blk3 f_10.blk
  go_upto_region 3 with fail
  clear he c0 c1 c2 z0 z1 z2
  obtain ⟨u0, u1⟩ := blk1 f_10.rot2.blk
  obtain ⟨a0, a1, a2, b0, b1, b2⟩ := blk3 f_10.rot1.blk
  obtain ⟨d0, d1, d2, e0, e1, e2⟩ := blk3 (Fr.set (n := 0) f_10.rot2 (.slice none 0 0)).rot2.blk
  obtain ⟨x00, x01, x02, x03, x04, x05⟩ := blk3 f_10.blk
  obtain ⟨y00, y01, y02, y03, y04, y05⟩ := blk3 (Fr.set (n := 0) f_10.rot2 (.slice none 0 0)).rot1.blk
  go_region
  all_goals
    go_wp2_with fail
    clear u0 u1 a0 a1 a2 b0 b1 b2 d0 d1 d2 e0 e1 e2 x00 y00 x01 y01 x02 y02 x03 y03 x04 y04 x05 y05
    have f_11 := Fr.set (n := 0) f_10.rot2 (.slice none 0 0)
    simp only [List.setIfInBounds_toArray, List.set_cons_zero] at f_11
    clear f_10
    generalize W10.setCell ⟨R, 0, none⟩ (.slice none 0 0) = W11 at *
    have f_12 := Fr.set3 f_11.rot2 (.int .i64 e) (.int .i64 ln) (.int .i64 cl)
    clear f_11
    generalize (((W11.setCell ⟨Fb, 0, none⟩ (.int .i64 e)).setCell ⟨Fb, 1, none⟩ (.int .i64 ln)).setCell ⟨Fb, 2, none⟩ (.int .i64 cl)) = W12 at *
    have f_13 := f_12.drew
    clear f_12
    generalize W12.drew = W13 at *
    obtain ⟨r0, -⟩ := blk1 f_13.rot1.blk
    obtain ⟨s0, s1, s2, -⟩ := blk3 f_13.blk
    try simp only [Exit.inBlock, Exit.then]
    refine bodyPost_ret (v := .tuple #[.agg #[.slice none 0 0], .agg #[.int .i64 e, .int .i64 ln, .int .i64 cl]]) (by simp [results, Tryz.results6, go_sem, r0, s0, s1, s2]) rfl ⟨f_13.low, ?_⟩
    unfold sourceOf
    rw [hsc]
    refine ⟨?_, ?_⟩
    · intro h0; have := scan_bad hsc; simp [h0] at this
    · rw [hlnH.out, hclH.out]

set_option maxHeartbeats 4000000 in
set_option maxRecDepth 100000 in
theorem source_some (s : ByteArray) (w : World) (hs : s.size ≤ maxLen) {l : List Tk} (hsc : scanOf s = .toks l) : Calls Tryz.prog 6 #[.string s] w (SrcPost s w) := by
  go_enter Tryz.func6, Tryz.ntmps6
  have f_0 := Fr.start0 w
  go_wp2_with fail
  have f_1 := f_0.alloc (.cells #[.slice none 0 0] 25)
  have z_1 := alloc_size w (.cells #[.slice none 0 0] 25)
  clear f_0
  generalize w.heap.size = R at *
  generalize w.alloc (.cells #[.slice none 0 0] 25) = W1 at *
  have f_2 := f_1.alloc (.cells #[.int .i64 0, .int .i64 0, .int .i64 0] 30)
  have z_2 := alloc_size W1 (.cells #[.int .i64 0, .int .i64 0, .int .i64 0] 30)
  clear f_1
  generalize W1.heap.size = Fb at *
  generalize W1.alloc (.cells #[.int .i64 0, .int .i64 0, .int .i64 0] 30) = W2 at *
  rw [← z_1]
  clear z_1
  clear z_2
  obtain ⟨id, zd, hiid, hizd, hisd, hibd, hicd⟩ := info_Node
  obtain ⟨hE, hK, hl0, hl1⟩ := scan_facts hsc
  refine (scan_any s _ hs).mono ?_
  rintro r W9 ⟨hb, hm⟩
  rw [hsc] at hm
  obtain ⟨g, c, rfl, ho⟩ := hm
  have f_9 := f_2.addRow hb ho
  clear hb ho f_2
  go_upto_region 2 with fail
  have f_10 := f_9.alloc (.cells #[.int .i64 0, .int .i64 0, .int .i64 0] 30)
  have z_10 := alloc_size W9 (.cells #[.int .i64 0, .int .i64 0, .int .i64 0] 30)
  clear f_9
  generalize W9.heap.size = Fc at *
  generalize W9.alloc (.cells #[.int .i64 0, .int .i64 0, .int .i64 0] 30) = W10 at *
  clear z_10
  obtain ⟨c0, c1, c2, z0, z1, z2⟩ := blk3 f_10.blk
  go_upto_region 5 with fail
  clear c0 c1 c2 z0 z1 z2
  have f_11 := f_10.alloc (.cells #[.slice (some ⟨g, 0, none⟩) l.length c, .int .i64 0, .int .i64 0, .int .i64 0, .int .i64 0] 53)
  have z_11 := alloc_size W10 (.cells #[.slice (some ⟨g, 0, none⟩) l.length c, .int .i64 0, .int .i64 0, .int .i64 0, .int .i64 0] 53)
  clear f_10
  generalize W10.heap.size = P at *
  generalize W10.alloc (.cells #[.slice (some ⟨g, 0, none⟩) l.length c, .int .i64 0, .int .i64 0, .int .i64 0, .int .i64 0] 53) = W11 at *
  clear z_11
  have fin := f_11.rot1.rot3.rot4.rot4.rot4
  clear f_11
  have hsm := fin.sm0 parser_ne_tok hl0 (by omega)
  have i_0 := PF.start hsm
  clear hsm
  generalize hw0 : W11 = w0 at *
  have hw0H := hid hw0
  clear hw0
  go_wp2_with fail
  have f_21 := i_0.alloc (.cells #[.slice none 0 0] 25)
  have z_21 := alloc_size w0 (.cells #[.slice none 0 0] 25)
  clear i_0
  generalize w0.heap.size = S at *
  generalize w0.alloc (.cells #[.slice none 0 0] 25) = W21 at *
  clear z_21
  obtain ⟨q0, hq0⟩ : ∃ q0, q0 = srcGo s l 17 [] (.ok 0) := ⟨_, rfl⟩
  have hsrc : sourceOf s = q0 := by
    rw [hq0]
    unfold sourceOf
    rw [hsc]
  have hsrcH := hid hsrc
  clear hsrc
  have fs := f_21.noNodes
  clear f_21
  go_loopg [] 17 (fun gk wr => ∃ (A : Option Addr) (n c : Nat) (xs : List LNode) (D : Nat → Prop) (m : Md), n + gk = 17 ∧ xs.length = n ∧ PF s l P g w0 m wr (rowK w0 61 7 (.slice A n c) n (xs.flatMap LNode.cells) :: nodesK D xs :: blkK S (.cells #[.slice A n c] 25 (0, 0)) :: []) ∧ Hid ((m.isBad = true → q0.2 = m) ∧ (m.isBad = false → n ≤ 16 ∧ q0 = srcGo s l gk (xs.map (·.n)) m)))
  case atStart => exact ⟨none, 0, 0, [], _, .ok 0, rfl, rfl, fs, hid ⟨(fun h => by cases h), fun _ => ⟨by omega, hq0⟩⟩⟩
  case round =>
    clear fs hq0
    obtain ⟨A, n, c, xs, D, m, hgk, hxn, f_90, hq⟩ := hrel
    go_wp2_with fail
    refine (bad_m f_90.sm).mono ?_
    rintro r W91 ⟨rfl, rfl⟩
    by_cases hb : m.isBad = true
    · rw [hb]
      have hq2 := hq.out.1 hb
      obtain ⟨er, ln, cl, rfl⟩ : ∃ er ln cl, m = .bad er ln cl := by
        cases m with
        | ok i => cases hb
        | bad a b c => exact ⟨a, b, c, rfl⟩
      obtain ⟨q1, q2⟩ := q0
      have hq2 : q2 = .bad er ln cl := hq2
      subst hq2
      clear hq hb
      go_wp2_with fail
      refine (bad_m f_90.sm).mono ?_
      rintro r W92 ⟨rfl, rfl⟩
      generalize hib : Md.isBad (.bad er ln cl) = ib
      obtain rfl : true = ib := hib
      have hsm2 := Fr.sm f_90
      obtain ⟨oP, f_j⟩ := fin.join f_90
      clear fin f_90
      simp only [List.cons_append, List.nil_append] at f_j
      obtain ⟨her, ip, hst⟩ := hsm2
      obtain ⟨c2, b0, pt, hpt, hPb, -⟩ := hst.blk
      have hoP := f_j.blk
      rw [hPb] at hoP
      injection hoP with hoP
      subst hoP
      clear hst hpt hPb
      have herH := hid her
      clear her
      go_upto_region 12 with fail
      obtain ⟨u0, u1⟩ := blk1 f_j.rot5.blk
      obtain ⟨a0, a1, a2, b0, b1, b2⟩ := blk3 f_j.rot6.blk
      obtain ⟨d0, d1, d2, e0, e1, e2⟩ := blk3 (Fr.set (n := 0) f_j.rot5 (.slice none 0 0)).rot6.blk
      obtain ⟨x00, x01, x02, x03, x04, x05, x06, x07, x08, x09⟩ := blk5 f_j.blk
      obtain ⟨y00, y01, y02, y03, y04, y05, y06, y07, y08, y09⟩ := blk5 (Fr.set (n := 0) f_j.rot5 (.slice none 0 0)).rot1.blk
      go_region
      all_goals
        go_wp2_with fail
        clear u0 u1 a0 a1 a2 b0 b1 b2 d0 d1 d2 e0 e1 e2 x00 y00 x01 y01 x02 y02 x03 y03 x04 y04 x05 y05 x06 y06 x07 y07 x08 y08 x09 y09
        have f_93 := Fr.set (n := 0) f_j.rot5 (.slice none 0 0)
        simp only [List.setIfInBounds_toArray, List.set_cons_zero] at f_93
        clear f_j
        generalize wr.setCell ⟨R, 0, none⟩ (.slice none 0 0) = W93 at *
        have f_94 := Fr.set3 f_93.rot6 (.int .i64 er) (.int .i64 ln) (.int .i64 cl)
        clear f_93
        generalize (((W93.setCell ⟨Fb, 0, none⟩ (.int .i64 er)).setCell ⟨Fb, 1, none⟩ (.int .i64 ln)).setCell ⟨Fb, 2, none⟩ (.int .i64 cl)) = W94 at *
        have f_95 := f_94.drew
        clear f_94
        generalize W94.drew = W95 at *
        obtain ⟨r0, -⟩ := blk1 f_95.rot1.blk
        obtain ⟨s0, s1, s2, -⟩ := blk3 f_95.blk
        try simp only [Exit.inBlock, Exit.then]
        refine bodyPost_ret (v := .tuple #[.agg #[.slice none 0 0], .agg #[.int .i64 er, .int .i64 ln, .int .i64 cl]]) (by simp [results, Tryz.results6, go_sem, r0, s0, s1, s2]) rfl ⟨f_95.low, ?_⟩
        rw [hsrcH.out, show (q1, Md.bad er ln cl) = _ from rfl]
        exact ⟨herH.out, rfl⟩
    · have hb := eq_false_of_ne_true hb
      rw [hb]
      obtain ⟨hn16, hqx⟩ := hq.out.2 hb
      have hqxH := hid hqx
      clear hqx hq
      obtain ⟨i, rfl⟩ := not_bad hb
      obtain ⟨gk, rfl⟩ : ∃ x, gk = x + 1 := ⟨gk - 1, by omega⟩
      have hml : (xs.map (·.n)).length = n := by simpa using hxn
      obtain ⟨m0, hm0⟩ : ∃ m0, m0 = if (xs.map (·.n)).length = 16 ∧ (Md.ok i).is l wNode = true then (Md.ok i).err s l 3 else .ok i := ⟨_, rfl⟩
      have hm0H := hid hm0
      rw [hml] at hm0
      go_upto_region 7 with fail
      go_cut [31] from 24 to 31 (fun t wx => t = .bool (decide (n = 16) && (Md.ok i).is l wNode) ∧ PF s l P g w0 (.ok i) wx (rowK w0 61 7 (.slice A n c) n (xs.flatMap LNode.cells) :: nodesK D xs :: blkK S (.cells #[.slice A n c] 25 (0, 0)) :: []))
      case first =>
        clear hm0
        by_cases h16 : n = 16
        · have h16b : ((n : Int) == 16) = true := by simp [h16]
          have hd : decide (n = 16) = true := by simp [h16]
          have hdH := hid hd
          clear h16 hd hn16 hgk
          obtain ⟨kS0, fS0⟩ := blk1 f_90.rot2.blk
          go_wp2_with fail
          clear kS0 fS0 h16b
          refine (is_m f_90.sm ⟨#[110, 111, 100, 101]⟩).mono ?_
          rintro r W92 ⟨rfl, b_92⟩
          have f_92 := f_90.below b_92
          clear f_90 b_92
          go_wp2_with fail
          go_meet
          case rel => exact ⟨by rw [hdH.out]; rfl, f_92⟩
        · have h16b : ((n : Int) == 16) = false := by simp; omega
          have hd : decide (n = 16) = false := by simp [h16]
          have hdH := hid hd
          clear hd
          obtain ⟨kS0, fS0⟩ := blk1 f_90.rot2.blk
          go_wp2_with fail
          clear kS0 fS0 h16b
          go_meet
          case rel => exact ⟨by rw [hdH.out]; rfl, f_90⟩
      case rest =>
        clear f_90
        obtain ⟨rfl, f_92⟩ := hcut
        generalize hcd : (decide (n = 16) && (Md.ok i).is l wNode) = cd at *
        have hmc : m0 = if cd = true then (Md.ok i).err s l 3 else .ok i := by
          rw [hm0, ← hcd]
          by_cases h16 : n = 16 <;> cases hw : (Md.ok i).is l wNode <;> simp [h16]
        have hmcH := hid hmc
        clear hmc hm0 hcd
        go_upto_if 31 with fail
        go_cut [31] from 32 to 36 (fun _ wx => PF s l P g w0 m0 wx (rowK w0 61 7 (.slice A n c) n (xs.flatMap LNode.cells) :: nodesK D xs :: blkK S (.cells #[.slice A n c] 25 (0, 0)) :: []))
        case first =>
          cases cd with
          | false =>
            have hm := hmcH.out
            rw [if_neg (by simp)] at hm
            go_wp2_with fail
            go_meet
            case rel => exact hm ▸ f_92
          | true =>
            have hm := hmcH.out
            rw [if_pos rfl] at hm
            go_wp2_with fail
            refine (now_m f_92.sm).mono ?_
            rintro r W93 ⟨j, hlt_j, hj_j, rfl, b_93⟩
            have f_93 := f_92.below b_93
            clear f_92 b_93
            obtain rfl : j = i := hj_j i rfl
            have hfd := field_at (.int .i64 (tkN l j).kind) (.string (tkN l j).text) (.int .i64 (tkN l j).num) (lnN s l j) (clN s l j)
            go_wp2_with fail
            clear hfd
            refine (fail_m f_93.sm (e := 3) (by decide) (lnN s l j) (clN s l j)).mono ?_
            rintro r W94 ⟨rfl, t_94, q_94⟩
            have f_94 := f_93.turn t_94 q_94
            clear f_93 t_94 q_94
            go_wp2_with fail
            go_meet
            case rel => exact hm ▸ f_94
        case rest =>
          clear f_92
          have f_94 := hcut
          clear hcut
          go_upto_region 9 with fail
          have hsH := hid f_94
          obtain ⟨v0, v1⟩ := blk1 f_94.rot2.blk
          go_region_law (first | (refine Fr.stepApp ((f_r.alloc (.cells #[.string nd.name, .slice Sn.i.A nd.ins.length Sn.i.cap, .slice Sn.o.A nd.outs.length Sn.o.cap, .slice Sn.v.A nd.vars.length Sn.v.cap, .slice Sn.e.A nd.eqs.length Sn.e.cap, .int .i64 nd.line, .int .i64 nd.col] 61)).rot2.rot1) rfl _ _ _ rfl Tryz.underlying23 hiid hizd hisd hibd hicd (by decide) rfl rfl rfl node_one (by decide) (by unfold maxLen; omega) (by omega) ?_; intro GE capE W_a f_a; obtain ⟨z0, z1⟩ := blk1 f_a.rot4.blk; have f_z := Fr.set (n := 0) f_a.rot4 (.slice (some ⟨GE, 0, none⟩) (n + 1) capE); simp only [List.setIfInBounds_toArray, List.set_cons_zero] at f_z; have f_z := hid f_z) | (go_simp; go_at_call 23; (with_reducible refine (node_m hE hK (Fr.drew hsH.out)).mono ?_); rintro r W_r ⟨nd, Sn, Dn, m9, rfl, f_r, hm9, hv9⟩; obtain ⟨x0, x1⟩ := blk1 f_r.rot3.blk; obtain ⟨y0, y1⟩ := blk1 (f_r.alloc (.cells #[.string nd.name, .slice Sn.i.A nd.ins.length Sn.i.cap, .slice Sn.o.A nd.outs.length Sn.o.cap, .slice Sn.v.A nd.vars.length Sn.v.cap, .slice Sn.e.A nd.eqs.length Sn.e.cap, .int .i64 nd.line, .int .i64 nd.col] 61)).rot4.blk; have hm9 := hid hm9; have hv9 := hid hv9))
          all_goals
            have f_q := f_z.out.rot2.tail.rot3.rot3.rot1
            have hr : xs.flatMap LNode.cells ++ (#[.string nd.name, .slice Sn.i.A nd.ins.length Sn.i.cap, .slice Sn.o.A nd.outs.length Sn.o.cap, .slice Sn.v.A nd.vars.length Sn.v.cap, .slice Sn.e.A nd.eqs.length Sn.e.cap, .int .i64 nd.line, .int .i64 nd.col] : Array Value).toList = (xs ++ [LNode.mk nd Sn]).flatMap LNode.cells := by
              simp [LNode.cells, Sl.v]
            rw [hr] at f_q
            clear hr
            have f_100 := (f_q.fuse (x := nodesK (fun n => D n ∨ Dn n) (xs ++ [LNode.mk nd Sn])) (fun _ h => h) (nodes_push f_q.head.q f_q.tail.head.q) (nodesK_ok _ _)).rot2
            have hxn2 : (xs ++ [LNode.mk nd Sn]).length = n + 1 := by simp [hxn]
            have hxm2 : (xs ++ [LNode.mk nd Sn]).map (·.n) = xs.map (·.n) ++ [nd] := by simp
            generalize (xs ++ [LNode.mk nd Sn]) = zs at *
            clear hsH f_z f_q v0 v1 x0 x1 y0 y1 z0 z1 f_94
            go_wp2_with fail
            refine (now_m f_100.sm).mono ?_
            rintro r W101 ⟨k, hlt_k, hj_k, rfl, b_101⟩
            have f_101 := f_100.below b_101
            clear f_100 b_101
            by_cases hk5 : (tkN l k).kind = 5
            · have hkb : ((tkN l k).kind == 5) = true := by simp [hk5]
              have hqz : q0 = (xs.map (·.n) ++ [(nodeP s l m0).1], m9) := by
                rw [hqxH.out]
                refine src_stop hm0H.out hm9.out.symm ?_
                cases m9 with
                | ok j => obtain rfl := hj_k j rfl; exact .inr (by simpa [Md.last] using hk5)
                | bad a b c => exact .inl rfl
              have hqzH := hid hqz
              clear hqz hqxH hk5
              have hfd := field_kind (tkN l k).kind (tkN l k).text (tkN l k).num (lnN s l k) (clN s l k)
              go_wp2_with fail
              clear hfd hkb
              refine (bad_m f_101.sm).mono ?_
              rintro r W102 ⟨rfl, rfl⟩
              cases m9 with
              | bad er ln cl =>
                generalize hib : Md.isBad (.bad er ln cl) = ib
                obtain rfl : true = ib := hib
                have hsm2 := Fr.sm f_101
                obtain ⟨oP, f_j⟩ := fin.join f_101
                clear fin f_101
                simp only [List.cons_append, List.nil_append] at f_j
                obtain ⟨her, ip, hst⟩ := hsm2
                obtain ⟨c2, b0, pt, hpt, hPb, -⟩ := hst.blk
                have hoP := f_j.blk
                rw [hPb] at hoP
                injection hoP with hoP
                subst hoP
                clear hst hpt hPb
                have herH := hid her
                clear her
                go_upto_region 12 with fail
                obtain ⟨u0, u1⟩ := blk1 f_j.rot5.blk
                obtain ⟨a0, a1, a2, b0, b1, b2⟩ := blk3 f_j.rot6.blk
                obtain ⟨d0, d1, d2, e0, e1, e2⟩ := blk3 (Fr.set (n := 0) f_j.rot5 (.slice none 0 0)).rot6.blk
                obtain ⟨x00, x01, x02, x03, x04, x05, x06, x07, x08, x09⟩ := blk5 f_j.blk
                obtain ⟨y00, y01, y02, y03, y04, y05, y06, y07, y08, y09⟩ := blk5 (Fr.set (n := 0) f_j.rot5 (.slice none 0 0)).rot1.blk
                go_region
                all_goals
                  go_wp2_with fail
                  clear u0 u1 a0 a1 a2 b0 b1 b2 d0 d1 d2 e0 e1 e2 x00 y00 x01 y01 x02 y02 x03 y03 x04 y04 x05 y05 x06 y06 x07 y07 x08 y08 x09 y09
                  have f_103 := Fr.set (n := 0) f_j.rot5 (.slice none 0 0)
                  simp only [List.setIfInBounds_toArray, List.set_cons_zero] at f_103
                  clear f_j
                  generalize W101.setCell ⟨R, 0, none⟩ (.slice none 0 0) = W103 at *
                  have f_104 := Fr.set3 f_103.rot6 (.int .i64 er) (.int .i64 ln) (.int .i64 cl)
                  clear f_103
                  generalize (((W103.setCell ⟨Fb, 0, none⟩ (.int .i64 er)).setCell ⟨Fb, 1, none⟩ (.int .i64 ln)).setCell ⟨Fb, 2, none⟩ (.int .i64 cl)) = W104 at *
                  have f_105 := f_104.drew
                  clear f_104
                  generalize W104.drew = W105 at *
                  obtain ⟨r0, -⟩ := blk1 f_105.rot1.blk
                  obtain ⟨s0, s1, s2, -⟩ := blk3 f_105.blk
                  try simp only [Exit.inBlock, Exit.then]
                  refine bodyPost_ret (v := .tuple #[.agg #[.slice none 0 0], .agg #[.int .i64 er, .int .i64 ln, .int .i64 cl]]) (by simp [results, Tryz.results6, go_sem, r0, s0, s1, s2]) rfl ⟨f_105.low, ?_⟩
                  rw [hsrcH.out, hqzH.out]
                  exact ⟨herH.out, rfl⟩
              | ok j =>
                generalize hib : Md.isBad (.ok j) = ib
                obtain rfl : false = ib := hib
                have hz : zs.map (·.n) = xs.map (·.n) ++ [(nodeP s l m0).1] := by rw [hxm2, hv9.out j rfl]
                have hzH := hid hz
                clear hz
                obtain ⟨Dz, f_r⟩ := Fr.nrow f_101 hxn2
                obtain ⟨oP, f_j⟩ := fin.join f_r
                clear fin f_r f_101
                simp only [List.cons_append, List.nil_append] at f_j
                go_upto_region 13 with fail
                obtain ⟨u0, u1⟩ := blk1 f_j.rot4.blk
                obtain ⟨a0, a1, a2, b0, b1, b2⟩ := blk3 f_j.rot5.blk
                obtain ⟨d0, d1, d2, e0, e1, e2⟩ := blk3 (Fr.set (n := 0) f_j.rot4 (.slice (some ⟨GE, 0, none⟩) (n + 1) capE)).rot5.blk
                obtain ⟨x00, x01⟩ := blk1 f_j.rot2.blk
                obtain ⟨y00, y01⟩ := blk1 (Fr.set (n := 0) f_j.rot4 (.slice (some ⟨GE, 0, none⟩) (n + 1) capE)).rot3.blk
                go_wp2_with fail
                clear u0 u1 a0 a1 a2 b0 b1 b2 d0 d1 d2 e0 e1 e2 x00 y00 x01 y01
                have f_103 := Fr.set (n := 0) f_j.rot4 (.slice (some ⟨GE, 0, none⟩) (n + 1) capE)
                simp only [List.setIfInBounds_toArray, List.set_cons_zero] at f_103
                clear f_j
                generalize W101.setCell ⟨R, 0, none⟩ (.slice (some ⟨GE, 0, none⟩) (n + 1) capE) = W103 at *
                have f_104 := Fr.set3 f_103.rot5 (.int .i64 0) (.int .i64 0) (.int .i64 0)
                clear f_103
                generalize (((W103.setCell ⟨Fb, 0, none⟩ (.int .i64 0)).setCell ⟨Fb, 1, none⟩ (.int .i64 0)).setCell ⟨Fb, 2, none⟩ (.int .i64 0)) = W104 at *
                have fin := f_104.rot3
                have hz := fin.nrd
                obtain ⟨r0, -⟩ := blk1 f_104.rot1.blk
                obtain ⟨s0, s1, s2, -⟩ := blk3 f_104.blk
                try simp only [Exit.inBlock, Exit.then]
                refine bodyPost_ret (v := .tuple #[.agg #[.slice (some ⟨GE, 0, none⟩) (n + 1) capE], .agg #[.int .i64 0, .int .i64 0, .int .i64 0]]) (by simp [results, Tryz.results6, go_sem, r0, s0, s1, s2]) rfl ⟨f_104.low, ?_⟩
                rw [hsrcH.out, hqzH.out, ← hzH.out]
                exact ⟨⟨some ⟨GE, 0, none⟩, capE⟩, by rw [List.length_map, hxn2], hz.1, hz.2⟩
            · have hkb : ((tkN l k).kind == 5) = false := by simp [hk5]
              have hk5H := hid hk5
              clear hk5
              have hfd := field_kind (tkN l k).kind (tkN l k).text (tkN l k).num (lnN s l k) (clN s l k)
              go_wp2_with fail
              clear hfd hkb
              go_roundg gk
              case measure => omega
              case rel =>
                refine ⟨_, n + 1, capE, zs, _, m9, by omega, hxn2, f_101, hid ⟨fun hb9 => ?_, fun hb9 => ?_⟩⟩
                · rw [hqxH.out, src_stop hm0H.out hm9.out.symm (.inl hb9)]
                · obtain ⟨j, rfl⟩ := not_bad hb9
                  obtain rfl := hj_k j rfl
                  have hlt : n < 16 := by
                    obtain ⟨i1, h1, h2⟩ := node_ok hm9.out.symm
                    have hm := hm0H.out
                    by_cases h16 : n = 16
                    · by_cases hw : (Md.ok i).is l wNode = true
                      · rw [if_pos ⟨by omega, hw⟩] at hm; exact absurd (hm.symm.trans h1) (fun h => err_ok h)
                      · rw [if_neg (fun h => hw h.2)] at hm
                        injection (hm.symm.trans h1) with h3
                        subst h3
                        exact absurd h2 hw
                    · omega
                  refine ⟨by omega, ?_⟩
                  rw [hqxH.out, hxm2, hv9.out k rfl]
                  exact src_more hm0H.out hm9.out.symm rfl (by simpa [Md.last] using hk5H.out)
end Go.Proofs.YtnlikhjmmnaknaaGreatDoor
