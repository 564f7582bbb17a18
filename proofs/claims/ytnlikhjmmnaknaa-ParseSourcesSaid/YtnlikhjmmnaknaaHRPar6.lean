/-
  The walk of the reference's Alone (printed by gen_p2.py).
-/
import Derived.Test.YtnlikhjmmnaknaaHRPar5
import Derived.Deep.CutRange
import Derived.Deep.RegionLaw
namespace Go.Proofs.Ytnlikhjmmnaknaa
open Go.RowKit


set_option maxHeartbeats 4000000 in
set_option maxRecDepth 100000 in
theorem ralone_merge {s : ByteArray} {l : List Tk} {P g : Nat} (hE : Ended l) (hK : TkOk s l)  {L : Int} {rec : Int → Nat → PR} {w : World} {k : Nat} (h : Sm s l P g w (.ok k)) (q0 : isN l k wTrue = false) (q1 : isN l k wFalse = false) (q2 : isN l k wMerge = true)
    (hW : ∀ (m : Md) (w : World), Sm s l P g w m → Calls Try.prog 72 #[.pointer (some ⟨P, 0, none⟩), .int .i64 L] w fun r w' => ∃ e A c t m', r = .returned (e.val A c) ∧ Got s l P g w (m.seq (fun i => withinN s l rec i .ok)) 30 w' e A c t m') :
    Calls Try.prog 45 #[.pointer (some ⟨P, 0, none⟩), .int .i64 L] w fun r w' => ∃ e A c t m', r = .returned (e.val A c) ∧ Got s l P g w (aloneN s l rec k) 30 w' e A c t m' := by
  go_enter Try.func45, Try.ntmps45
  have f_1 := PF.start h
  go_upto_region 1 with fail
  have f_2 := f_1.alloc (.cells #[.int .i64 0, .string ⟨#[]⟩, .int .i64 0, .slice none 0 0, .int .i64 0, .int .i64 0] 27)
  have z_2 := alloc_size w (.cells #[.int .i64 0, .string ⟨#[]⟩, .int .i64 0, .slice none 0 0, .int .i64 0, .int .i64 0] 27)
  clear f_1
  generalize w.heap.size = R at *
  generalize w.alloc (.cells #[.int .i64 0, .string ⟨#[]⟩, .int .i64 0, .slice none 0 0, .int .i64 0, .int .i64 0] 27) = W2 at *
  clear z_2
  go_upto_region 1 with fail
  obtain ⟨i, crd, ⟨hlt_i, hj_i, hx1, hx2⟩, ⟨c0, c1, k0, k1, k2, k3, k4⟩, ⟨d0, d1, e0, e1, e2, e3, e4⟩⟩ := f_2.reads (.cells #[.int .i64 0, .string ⟨#[]⟩, .int .i64 0, .int .i64 0, .int .i64 0] 54)
  obtain rfl : i = k := hj_i k rfl
  go_cut [5] from 8 to 17 (fun p wx => ∃ T1, p = .pointer (some ⟨T1, 0, none⟩) ∧ PF s l P g w (.ok i) wx (blkK T1 (.cells #[.int .i64 (tkN l i).kind, .string (tkN l i).text, .int .i64 (tkN l i).num, .int .i64 (lnN s l i), .int .i64 (clN s l i)] 54 (0, 0)) :: blkK R (.cells #[.int .i64 0, .string ⟨#[]⟩, .int .i64 0, .slice none 0 0, .int .i64 0, .int .i64 0] 27 (0, 0)) :: []))
  case first =>
    go_region
    all_goals
      go_wp2_with fail
      go_meet
      case rel => exact ⟨_, rfl, (Fr.alloc f_2 (.cells #[.int .i64 (tkN l i).kind, .string (tkN l i).text, .int .i64 (tkN l i).num, .int .i64 (lnN s l i), .int .i64 (clN s l i)] 54)).drew⟩
  case rest =>
    obtain ⟨T, rfl, f_3⟩ := hcut
    clear c0 c1 k0 k1 k2 k3 k4 d0 d1 e0 e1 e2 e3 e4 f_2
    obtain ⟨ie, ze, hie, hze, hse, hbe, hce⟩ := Expr.info'
    go_wp2_with fail
    refine ((rtake_no (t := ⟨#[116, 114, 117, 101]⟩) hE f_3.sm q0)).mono ?_
    rintro r W4 ⟨rfl, t_4, q_4⟩
    have f_4 := f_3.turn t_4 q_4
    clear f_3 t_4 q_4
    go_wp2_with fail
    refine ((rtake_no (t := ⟨#[102, 97, 108, 115, 101]⟩) hE f_4.sm q1)).mono ?_
    rintro r W5 ⟨rfl, t_5, q_5⟩
    have f_5 := f_4.turn t_5 q_5
    clear f_4 t_5 q_5
    go_wp2_with fail
    refine ((rtake_yes (t := ⟨#[109, 101, 114, 103, 101]⟩) hE f_5.sm q2)).mono ?_
    rintro r W6 ⟨rfl, t_6, q_6⟩
    have f_6 := f_5.turn t_6 q_6
    clear f_5 t_6 q_6
    go_upto_region 7 with fail
    obtain ⟨i1, hi1⟩ : ∃ i1, i1 = i + 1 := ⟨_, rfl⟩
    rw [← hi1] at f_6
    have hi1H := hid hi1
    clear hi1
    go_cut [6] from 30 to 34 (fun p wx => ∃ E1, p = .pointer (some ⟨E1, 0, none⟩) ∧ PF s l P g w (Md.name s l (.ok i1) false) wx (blkK E1 (.cells #[.int .i64 26, .string (tkN l i1).text, .int .i64 0, .slice none 0 0, .int .i64 (lnN s l i), .int .i64 (clN s l i)] 27 (0, 0)) :: blkK T (.cells #[.int .i64 (tkN l i).kind, .string (tkN l i).text, .int .i64 (tkN l i).num, .int .i64 (lnN s l i), .int .i64 (clN s l i)] 54 (0, 0)) :: blkK R (.cells #[.int .i64 0, .string ⟨#[]⟩, .int .i64 0, .slice none 0 0, .int .i64 0, .int .i64 0] 27 (0, 0)) :: []))
    case first =>
      have hsH := hid f_6
      obtain ⟨v0, v1, v2, v3, v4, -⟩ := blk5 f_6.blk
      obtain ⟨a0, a1, a2, a3, a4, -⟩ := blk5 (Fr.alloc f_6 (.cells #[.int .i64 0, .string ⟨#[]⟩, .int .i64 0, .slice none 0 0, .int .i64 0, .int .i64 0] 27)).rot1.blk
      go_region_with (go_at_call 46; first | ((with_reducible refine (rname_m hE (Fr.sm (Fr.drew hsH.out)) true).mono ?_); rintro r W_r ⟨j2, hlt2, hj2, rfl, t_r, q_r⟩; obtain rfl : i1 = j2 := (hj2 i1 rfl).symm; have t_s : Sm s l P g W_r (Md.name s l (.ok i1) false) := t_r; have f_r := Fr.turn (Fr.drew hsH.out) t_s q_r; obtain ⟨u0, u1, u2, u3, u4, -⟩ := blk5 f_r.blk; obtain ⟨b0, b1, b2, b3, b4, -⟩ := blk5 (Fr.alloc f_r (.cells #[.int .i64 0, .string ⟨#[]⟩, .int .i64 0, .slice none 0 0, .int .i64 0, .int .i64 0] 27)).rot1.blk; have f_z := hid (Fr.alloc f_r (.cells #[.int .i64 26, .string (tkN l i1).text, .int .i64 0, .slice none 0 0, .int .i64 (lnN s l i), .int .i64 (clN s l i)] 27))) | ((with_reducible refine (rname_m hE (Fr.sm (Fr.drew (Fr.alloc hsH.out (.cells #[.int .i64 0, .string ⟨#[]⟩, .int .i64 0, .slice none 0 0, .int .i64 0, .int .i64 0] 27)))) true).mono ?_); rintro r W_r ⟨j2, hlt2, hj2, rfl, t_r, q_r⟩; obtain rfl : i1 = j2 := (hj2 i1 rfl).symm; have t_s : Sm s l P g W_r (Md.name s l (.ok i1) false) := t_r; have f_r := Fr.turn (Fr.drew (Fr.alloc hsH.out (.cells #[.int .i64 0, .string ⟨#[]⟩, .int .i64 0, .slice none 0 0, .int .i64 0, .int .i64 0] 27))) t_s q_r; obtain ⟨u0, u1, u2, u3, u4, -⟩ := blk5 f_r.rot1.blk; obtain ⟨y0, y1, y2, y3, y4, y5, z0, z1, z2, z3, z4, z5⟩ := blk6 f_r.blk; have f_y := hid (Fr.set6 f_r (.int .i64 26) (.string (tkN l i1).text) (.int .i64 0) (.slice none 0 0) (.int .i64 (lnN s l i)) (.int .i64 (clN s l i)))))
      all_goals
        go_wp2_with fail
        go_meet
        case rel => first | with_reducible exact ⟨_, rfl, f_y.out⟩ | with_reducible exact ⟨_, rfl, f_z.out⟩
    case rest =>
      obtain ⟨E, rfl, f_7⟩ := hcut
      clear f_6
      have f_e := f_7.rot1.rot2.rot2
      have f_f := f_e.nilRow 27 6
      clear f_e f_7
      have f_g : PF s l P g w (Md.name s l (.ok i1) false) wc (rowK w 27 6 (.slice none 0 0) 0 ((([] : List LX).map LX.x).flatMap LEx.cells) :: blkK E (.cells #[.int .i64 26, .string (tkN l i1).text, .int .i64 0, .slice none 0 0, .int .i64 (lnN s l i), .int .i64 (clN s l i)] 27 (0, 0)) :: blkK R (.cells #[.int .i64 0, .string ⟨#[]⟩, .int .i64 0, .slice none 0 0, .int .i64 0, .int .i64 0] 27 (0, 0)) :: blkK T (.cells #[.int .i64 (tkN l i).kind, .string (tkN l i).text, .int .i64 (tkN l i).num, .int .i64 (lnN s l i), .int .i64 (clN s l i)] 54 (0, 0)) :: ([] : List LX).map LX.kp) := f_f
      clear f_f
      go_upto_region 8 with fail
      go_cut [] from 35 to 42 (fun wx => ∃ (ex : Ex) (Ax : Option Addr) (cx : Nat) (tx : Int) (mx : Md) (Dx : Nat → Prop) (Gx capx : Nat), PF s l P g w mx wx (rowK w 27 6 (.slice (some ⟨Gx, 0, none⟩) 1 capx) 1 (((([] : List LX) ++ [LX.mk Dx ⟨ex, Ax, cx⟩]).map LX.x).flatMap LEx.cells) :: blkK E (.cells #[.int .i64 26, .string (tkN l i1).text, .int .i64 0, .slice (some ⟨Gx, 0, none⟩) 1 capx, .int .i64 (lnN s l i), .int .i64 (clN s l i)] 27 (0, 0)) :: blkK R (.cells #[.int .i64 0, .string ⟨#[]⟩, .int .i64 0, .slice none 0 0, .int .i64 0, .int .i64 0] 27 (0, 0)) :: blkK T (.cells #[.int .i64 (tkN l i).kind, .string (tkN l i).text, .int .i64 (tkN l i).num, .int .i64 (lnN s l i), .int .i64 (clN s l i)] 54 (0, 0)) :: (([] : List LX) ++ [LX.mk Dx ⟨ex, Ax, cx⟩]).map LX.kp) ∧ (0 ≤ tx ∧ ∀ i, mx = .ok i → tx ≤ 30) ∧ Hid (Came ((Md.name s l (.ok i1) false).seq (fun i => withinN s l rec i .ok)) mx ex tx))
      case first =>
        have f_s := f_g.rot3.rot3.rot3.rot3
        have hsH := hid f_s
        obtain ⟨kvE0, kvE1, kvE2, kvE3, kvE4, kvE5, fvE0, fvE1, fvE2, fvE3, fvE4, fvE5⟩ := blk6 f_s.rot1.blk
        go_region_law (first | (refine Fr.stepApp ((f_r.alloc (.cells #[.int .i64 ex.op, .string ex.name, .int .i64 ex.num, .slice Ax ex.k cx, .int .i64 ex.line, .int .i64 ex.col] 27)).rot2.rot1) rfl _ _ _ rfl Try.underlying23 hie hze hse hbe hce (by decide) rfl rfl rfl ex_one (by decide) (by unfold maxLen; omega) (by omega) ?_; intro Gx capx W_a f_a; obtain ⟨kyE0, kyE1, kyE2, kyE3, kyE4, kyE5, fyE0, fyE1, fyE2, fyE3, fyE4, fyE5⟩ := blk6 f_a.rot3.blk; have f_z := Fr.set (n := 3) f_a.rot3 (.slice (some ⟨Gx, 0, none⟩) 1 capx); simp only [List.setIfInBounds_toArray, List.set_cons_zero, List.set_cons_succ] at f_z; have f_z := hid f_z) | (go_simp; go_at_call 72; (with_reducible refine (hW _ _ (Fr.sm (Fr.drew hsH.out))).mono ?_); rintro r W_r ⟨ex, Ax, cx, tx, mx, rfl, Gx⟩; obtain ⟨Dx, f_r⟩ := (Fr.drew hsH.out).expr Gx; obtain ⟨lowx, topx, okx, camex⟩ := Gx.facts; simp only [Ex.val_eq]; obtain ⟨kuE0, kuE1, kuE2, kuE3, kuE4, kuE5, fuE0, fuE1, fuE2, fuE3, fuE4, fuE5⟩ := blk6 f_r.rot2.blk; obtain ⟨kwE0, kwE1, kwE2, kwE3, kwE4, kwE5, fwE0, fwE1, fwE2, fwE3, fwE4, fwE5⟩ := blk6 (f_r.alloc (.cells #[.int .i64 ex.op, .string ex.name, .int .i64 ex.num, .slice Ax ex.k cx, .int .i64 ex.line, .int .i64 ex.col] 27)).rot3.blk))
        all_goals
          go_wp2_with fail
          go_meet
          case rel =>
            have f_q := f_z.out.rot2.tail
            refine ⟨ex, Ax, cx, tx, mx, Dx, Gx, capx, ?_, ⟨lowx, okx⟩, camex⟩
            rw [rows_push]
            exact (f_q.rot1.rot2).perm (push_perm _ [_, _, _, _] _ _ _ _)
      case rest =>
        obtain ⟨ex, Ax, cx, tx, mx, Dx, Gx, capx, f_8, ⟨lowx, okx⟩, camex⟩ := hcut
        clear f_g
        go_upto_region 9 with fail
        go_cut [] from 43 to 50 (fun wx => ∃ (ey : Ex) (Ay : Option Addr) (cy : Nat) (ty : Int) (my : Md) (Dy : Nat → Prop) (Gy capy : Nat), PF s l P g w my wx (rowK w 27 6 (.slice (some ⟨Gy, 0, none⟩) 2 capy) 2 ((((([] : List LX) ++ [LX.mk Dx ⟨ex, Ax, cx⟩]) ++ [LX.mk Dy ⟨ey, Ay, cy⟩]).map LX.x).flatMap LEx.cells) :: blkK E (.cells #[.int .i64 26, .string (tkN l i1).text, .int .i64 0, .slice (some ⟨Gy, 0, none⟩) 2 capy, .int .i64 (lnN s l i), .int .i64 (clN s l i)] 27 (0, 0)) :: blkK R (.cells #[.int .i64 0, .string ⟨#[]⟩, .int .i64 0, .slice none 0 0, .int .i64 0, .int .i64 0] 27 (0, 0)) :: blkK T (.cells #[.int .i64 (tkN l i).kind, .string (tkN l i).text, .int .i64 (tkN l i).num, .int .i64 (lnN s l i), .int .i64 (clN s l i)] 54 (0, 0)) :: ((([] : List LX) ++ [LX.mk Dx ⟨ex, Ax, cx⟩]) ++ [LX.mk Dy ⟨ey, Ay, cy⟩]).map LX.kp) ∧ (0 ≤ ty ∧ ∀ i, my = .ok i → ty ≤ 30) ∧ Hid (Came (mx.seq (fun i => withinN s l rec i .ok)) my ey ty))
        case first =>
          have f_s := f_8.rot3.rot3.rot3.rot3
          have hsH := hid f_s
          obtain ⟨kvE0, kvE1, kvE2, kvE3, kvE4, kvE5, fvE0, fvE1, fvE2, fvE3, fvE4, fvE5⟩ := blk6 f_s.rot1.blk
          go_region_law (first | (refine Fr.stepApp ((f_r.alloc (.cells #[.int .i64 ey.op, .string ey.name, .int .i64 ey.num, .slice Ay ey.k cy, .int .i64 ey.line, .int .i64 ey.col] 27)).rot2.rot1) rfl _ _ _ rfl Try.underlying23 hie hze hse hbe hce (by decide) rfl rfl rfl ex_one (by decide) (by unfold maxLen; omega) (by omega) ?_; intro Gy capy W_a f_a; obtain ⟨kyE0, kyE1, kyE2, kyE3, kyE4, kyE5, fyE0, fyE1, fyE2, fyE3, fyE4, fyE5⟩ := blk6 f_a.rot3.blk; have f_z := Fr.set (n := 3) f_a.rot3 (.slice (some ⟨Gy, 0, none⟩) 2 capy); simp only [List.setIfInBounds_toArray, List.set_cons_zero, List.set_cons_succ] at f_z; have f_z := hid f_z) | (go_simp; go_at_call 72; (with_reducible refine (hW _ _ (Fr.sm (Fr.drew hsH.out))).mono ?_); rintro r W_r ⟨ey, Ay, cy, ty, my, rfl, Gy⟩; obtain ⟨Dy, f_r⟩ := (Fr.drew hsH.out).expr Gy; obtain ⟨lowy, topy, oky, camey⟩ := Gy.facts; simp only [Ex.val_eq]; obtain ⟨kuE0, kuE1, kuE2, kuE3, kuE4, kuE5, fuE0, fuE1, fuE2, fuE3, fuE4, fuE5⟩ := blk6 f_r.rot2.blk; obtain ⟨kwE0, kwE1, kwE2, kwE3, kwE4, kwE5, fwE0, fwE1, fwE2, fwE3, fwE4, fwE5⟩ := blk6 (f_r.alloc (.cells #[.int .i64 ey.op, .string ey.name, .int .i64 ey.num, .slice Ay ey.k cy, .int .i64 ey.line, .int .i64 ey.col] 27)).rot3.blk))
          all_goals
            go_wp2_with fail
            go_meet
            case rel =>
              have f_q := f_z.out.rot2.tail
              refine ⟨ey, Ay, cy, ty, my, Dy, Gy, capy, ?_, ⟨lowy, oky⟩, camey⟩
              rw [rows_push]
              exact (f_q.rot1.rot2).perm (push_perm _ [_, _, _, _] _ _ _ _)
        case rest =>
          obtain ⟨ey, Ay, cy, ty, my, Dy, Gy, capy, f_9, ⟨lowy, oky⟩, camey⟩ := hcut
          clear f_8
          obtain ⟨kE0, kE1, kE2, kE3, kE4, kE5, fE0, fE1, fE2, fE3, fE4, fE5⟩ := blk6 f_9.rot1.blk
          go_wp2_with fail
          clear kE0 kE1 kE2 kE3 kE4 kE5 fE0 fE1 fE2 fE3 fE4 fE5
          have hdp := rdeep_m f_9.sm (parts_in (num := 0) (op := 26) (name := (tkN l i1).text) (ln := lnN s l i) (cl := clN s l i) f_9.head.q rfl (Fr.exs (ks := [_, _, _, _]) f_9) (by simp [I64]) ((hK i1).2.2.1) (by simp [I64]) (hK i).1 (hK i).2.1) (fun n hn => hn.2) (fun hn => by have := f_9.lt P rfl; have := hn.1; omega) (fun j hj => high2 (came_high camex.out okx (seq_ok (came_ok (hj ▸ camey.out)).1).choose_spec) (came_high camey.out oky hj))
          rw [show (mkEx 26 (tkN l i1).text 0 (LX.es ((([] : List LX) ++ [LX.mk Dx ⟨ex, Ax, cx⟩]) ++ [LX.mk Dy ⟨ey, Ay, cy⟩])) (lnN s l i) (clN s l i)).val (some ⟨Gy, 0, none⟩) capy = .agg #[.int .i64 26, .string (tkN l i1).text, .int .i64 0, .slice (some ⟨Gy, 0, none⟩) 2 capy, .int .i64 (lnN s l i), .int .i64 (clN s l i)] from rfl] at hdp
          refine (hdp).mono ?_
          rintro r W10 ⟨rfl, t_10, q_10⟩
          have f_10 := f_9.turn t_10 q_10
          clear f_9 t_10 q_10
          clear hdp
          obtain ⟨kR0, kR1, kR2, kR3, kR4, kR5, fR0, fR1, fR2, fR3, fR4, fR5⟩ := blk6 f_10.rot2.blk
          go_wp2_with fail
          clear kR0 kR1 kR2 kR3 kR4 kR5 fR0 fR1 fR2 fR3 fR4 fR5
          have f_11 := Fr.set6 f_10.rot2 (.int .i64 26) (.string (tkN l i1).text) (.int .i64 0) (.slice (some ⟨Gy, 0, none⟩) 2 capy) (.int .i64 (lnN s l i)) (.int .i64 (clN s l i))
          clear f_10
          generalize ((((((W10.setCell ⟨R, 0, none⟩ (.int .i64 26)).setCell ⟨R, 1, none⟩ (.string (tkN l i1).text)).setCell ⟨R, 2, none⟩ (.int .i64 0)).setCell ⟨R, 3, none⟩ (.slice (some ⟨Gy, 0, none⟩) 2 capy)).setCell ⟨R, 4, none⟩ (.int .i64 (lnN s l i))).setCell ⟨R, 5, none⟩ (.int .i64 (clN s l i))) = W11 at *
          have hin := parts_in (num := 0) (op := 26) (name := (tkN l i1).text) (ln := lnN s l i) (cl := clN s l i) f_11.rot1.head.q rfl (Fr.exs (ks := [_, _, _, _]) f_11) (by simp [I64]) ((hK i1).2.2.1) (by simp [I64]) (hK i).1 (hK i).2.1
          have hqq : aloneN s l rec i = my.seq fun j0 => madeN (mkEx 26 (tkN l i1).text 0 (LX.es ((([] : List LX) ++ [LX.mk Dx ⟨ex, Ax, cx⟩]) ++ [LX.mk Dy ⟨ey, Ay, cy⟩])) (lnN s l i) (clN s l i)) j0 := by
            have hi2 := hi1H.out
            subst hi2
            rw [alone_merge q2 q0 q1, name_seq]
            rw [show (fun i1 => withinN s l rec i1 fun a i2 => withinN s l rec i2 fun b i3 => madeN (mkEx 26 (tkN l (i + 1)).text 0 [a, b] (lnN s l i) (clN s l i)) i3) = fun i1 => (withinN s l rec i1 .ok).then fun a i2 => (withinN s l rec i2 .ok).then fun b i3 => madeN (mkEx 26 (tkN l (i + 1)).text 0 [a, b] (lnN s l i) (clN s l i)) i3 from funext fun i1 => by rw [within_then]; congr 1; funext a i2; rw [within_then]]
            rw [← seq_then, came_then camex.out, ← seq_then, came_then camey.out]
            rfl
          obtain ⟨hh, hG⟩ := Got.mk0 hin f_11.sm f_11.gr (by omega) (fun j hj => by have := (deep_ok hj).1; omega) (deep_came (m := my) hqq)
          obtain ⟨r0, r1, r2, r3, r4, r5, -⟩ := blk6 f_11.blk
          try simp only [Exit.inBlock, Exit.then]
          exact bodyPost_ret (v := .agg #[.int .i64 26, .string (tkN l i1).text, .int .i64 0, .slice (some ⟨Gy, 0, none⟩) 2 capy, .int .i64 (lnN s l i), .int .i64 (clN s l i)]) (by simp [results, Try.results45, go_sem, r0, r1, r2, r3, r4, r5]) rfl ⟨mkEx 26 (tkN l i1).text 0 (LX.es ((([] : List LX) ++ [LX.mk Dx ⟨ex, Ax, cx⟩]) ++ [LX.mk Dy ⟨ey, Ay, cy⟩])) (lnN s l i) (clN s l i), (some ⟨Gy, 0, none⟩), capy, hh, _, rfl, hG⟩

set_option maxHeartbeats 4000000 in
set_option maxRecDepth 100000 in
theorem ralone_true {s : ByteArray} {l : List Tk} {P g : Nat} (hE : Ended l) (hK : TkOk s l)  {L : Int} {rec : Int → Nat → PR} {w : World} {k : Nat} (h : Sm s l P g w (.ok k)) (q1 : isN l k wTrue = true) :
    Calls Try.prog 45 #[.pointer (some ⟨P, 0, none⟩), .int .i64 L] w fun r w' => ∃ e A c t m', r = .returned (e.val A c) ∧ Got s l P g w (aloneN s l rec k) 30 w' e A c t m' := by
  go_enter Try.func45, Try.ntmps45
  have f_1 := PF.start h
  go_upto_region 1 with fail
  have f_2 := f_1.alloc (.cells #[.int .i64 0, .string ⟨#[]⟩, .int .i64 0, .slice none 0 0, .int .i64 0, .int .i64 0] 27)
  have z_2 := alloc_size w (.cells #[.int .i64 0, .string ⟨#[]⟩, .int .i64 0, .slice none 0 0, .int .i64 0, .int .i64 0] 27)
  clear f_1
  generalize w.heap.size = R at *
  generalize w.alloc (.cells #[.int .i64 0, .string ⟨#[]⟩, .int .i64 0, .slice none 0 0, .int .i64 0, .int .i64 0] 27) = W2 at *
  clear z_2
  go_upto_region 1 with fail
  obtain ⟨i, crd, ⟨hlt_i, hj_i, hx1, hx2⟩, ⟨c0, c1, k0, k1, k2, k3, k4⟩, ⟨d0, d1, e0, e1, e2, e3, e4⟩⟩ := f_2.reads (.cells #[.int .i64 0, .string ⟨#[]⟩, .int .i64 0, .int .i64 0, .int .i64 0] 54)
  obtain rfl : i = k := hj_i k rfl
  go_cut [5] from 8 to 17 (fun p wx => ∃ T1, p = .pointer (some ⟨T1, 0, none⟩) ∧ PF s l P g w (.ok i) wx (blkK T1 (.cells #[.int .i64 (tkN l i).kind, .string (tkN l i).text, .int .i64 (tkN l i).num, .int .i64 (lnN s l i), .int .i64 (clN s l i)] 54 (0, 0)) :: blkK R (.cells #[.int .i64 0, .string ⟨#[]⟩, .int .i64 0, .slice none 0 0, .int .i64 0, .int .i64 0] 27 (0, 0)) :: []))
  case first =>
    go_region
    all_goals
      go_wp2_with fail
      go_meet
      case rel => exact ⟨_, rfl, (Fr.alloc f_2 (.cells #[.int .i64 (tkN l i).kind, .string (tkN l i).text, .int .i64 (tkN l i).num, .int .i64 (lnN s l i), .int .i64 (clN s l i)] 54)).drew⟩
  case rest =>
    obtain ⟨T, rfl, f_3⟩ := hcut
    clear c0 c1 k0 k1 k2 k3 k4 d0 d1 e0 e1 e2 e3 e4 f_2
    go_wp2_with fail
    refine ((rtake_yes (t := ⟨#[116, 114, 117, 101]⟩) hE f_3.sm q1)).mono ?_
    rintro r W4 ⟨rfl, t_4, q_4⟩
    have f_4 := f_3.turn t_4 q_4
    clear f_3 t_4 q_4
    obtain ⟨t0, t1, t2, t3, t4, -⟩ := blk5 f_4.blk
    obtain ⟨kR0, kR1, kR2, kR3, kR4, kR5, fR0, fR1, fR2, fR3, fR4, fR5⟩ := blk6 f_4.rot1.blk
    go_wp2_with fail
    clear kR0 kR1 kR2 kR3 kR4 kR5 fR0 fR1 fR2 fR3 fR4 fR5 t0 t1 t2 t3 t4
    have f_5 := Fr.set6 f_4.rot1 (.int .i64 2) (.string ⟨#[]⟩) (.int .i64 1) (.slice none 0 0) (.int .i64 (lnN s l i)) (.int .i64 (clN s l i))
    clear f_4
    generalize ((((((W4.setCell ⟨R, 0, none⟩ (.int .i64 2)).setCell ⟨R, 1, none⟩ (.string ⟨#[]⟩)).setCell ⟨R, 2, none⟩ (.int .i64 1)).setCell ⟨R, 3, none⟩ (.slice none 0 0)).setCell ⟨R, 4, none⟩ (.int .i64 (lnN s l i))).setCell ⟨R, 5, none⟩ (.int .i64 (clN s l i))) = W5 at *
    obtain ⟨hh, hG⟩ := Got.mk0 (q := aloneN s l rec i) (ExIn.lit (op := 2) (name := ⟨#[]⟩) (n := 1) (by simp [I64]) nil_le (by simp [I64]) (hK i).1 (hK i).2.1) f_5.sm f_5.gr (t := 1) (by omega) (fun _ _ => by omega) (by rw [alone_true q1]; exact ⟨rfl, rfl, rfl⟩)
    obtain ⟨r0, r1, r2, r3, r4, r5, -⟩ := blk6 f_5.blk
    try simp only [Exit.inBlock, Exit.then]
    exact bodyPost_ret (v := .agg #[.int .i64 2, .string ⟨#[]⟩, .int .i64 1, .slice none 0 0, .int .i64 (lnN s l i), .int .i64 (clN s l i)]) (by simp [results, Try.results45, go_sem, r0, r1, r2, r3, r4, r5]) rfl ⟨mkEx 2 ⟨#[]⟩ 1 [] (lnN s l i) (clN s l i), none, 0, hh, _, rfl, hG⟩

set_option maxHeartbeats 4000000 in
set_option maxRecDepth 100000 in
theorem ralone_false {s : ByteArray} {l : List Tk} {P g : Nat} (hE : Ended l) (hK : TkOk s l)  {L : Int} {rec : Int → Nat → PR} {w : World} {k : Nat} (h : Sm s l P g w (.ok k)) (q0 : isN l k wTrue = false) (q1 : isN l k wFalse = true) :
    Calls Try.prog 45 #[.pointer (some ⟨P, 0, none⟩), .int .i64 L] w fun r w' => ∃ e A c t m', r = .returned (e.val A c) ∧ Got s l P g w (aloneN s l rec k) 30 w' e A c t m' := by
  go_enter Try.func45, Try.ntmps45
  have f_1 := PF.start h
  go_upto_region 1 with fail
  have f_2 := f_1.alloc (.cells #[.int .i64 0, .string ⟨#[]⟩, .int .i64 0, .slice none 0 0, .int .i64 0, .int .i64 0] 27)
  have z_2 := alloc_size w (.cells #[.int .i64 0, .string ⟨#[]⟩, .int .i64 0, .slice none 0 0, .int .i64 0, .int .i64 0] 27)
  clear f_1
  generalize w.heap.size = R at *
  generalize w.alloc (.cells #[.int .i64 0, .string ⟨#[]⟩, .int .i64 0, .slice none 0 0, .int .i64 0, .int .i64 0] 27) = W2 at *
  clear z_2
  go_upto_region 1 with fail
  obtain ⟨i, crd, ⟨hlt_i, hj_i, hx1, hx2⟩, ⟨c0, c1, k0, k1, k2, k3, k4⟩, ⟨d0, d1, e0, e1, e2, e3, e4⟩⟩ := f_2.reads (.cells #[.int .i64 0, .string ⟨#[]⟩, .int .i64 0, .int .i64 0, .int .i64 0] 54)
  obtain rfl : i = k := hj_i k rfl
  go_cut [5] from 8 to 17 (fun p wx => ∃ T1, p = .pointer (some ⟨T1, 0, none⟩) ∧ PF s l P g w (.ok i) wx (blkK T1 (.cells #[.int .i64 (tkN l i).kind, .string (tkN l i).text, .int .i64 (tkN l i).num, .int .i64 (lnN s l i), .int .i64 (clN s l i)] 54 (0, 0)) :: blkK R (.cells #[.int .i64 0, .string ⟨#[]⟩, .int .i64 0, .slice none 0 0, .int .i64 0, .int .i64 0] 27 (0, 0)) :: []))
  case first =>
    go_region
    all_goals
      go_wp2_with fail
      go_meet
      case rel => exact ⟨_, rfl, (Fr.alloc f_2 (.cells #[.int .i64 (tkN l i).kind, .string (tkN l i).text, .int .i64 (tkN l i).num, .int .i64 (lnN s l i), .int .i64 (clN s l i)] 54)).drew⟩
  case rest =>
    obtain ⟨T, rfl, f_3⟩ := hcut
    clear c0 c1 k0 k1 k2 k3 k4 d0 d1 e0 e1 e2 e3 e4 f_2
    go_wp2_with fail
    refine ((rtake_no (t := ⟨#[116, 114, 117, 101]⟩) hE f_3.sm q0)).mono ?_
    rintro r W4 ⟨rfl, t_4, q_4⟩
    have f_4 := f_3.turn t_4 q_4
    clear f_3 t_4 q_4
    go_wp2_with fail
    refine ((rtake_yes (t := ⟨#[102, 97, 108, 115, 101]⟩) hE f_4.sm q1)).mono ?_
    rintro r W5 ⟨rfl, t_5, q_5⟩
    have f_5 := f_4.turn t_5 q_5
    clear f_4 t_5 q_5
    obtain ⟨t0, t1, t2, t3, t4, -⟩ := blk5 f_5.blk
    obtain ⟨kR0, kR1, kR2, kR3, kR4, kR5, fR0, fR1, fR2, fR3, fR4, fR5⟩ := blk6 f_5.rot1.blk
    go_wp2_with fail
    clear kR0 kR1 kR2 kR3 kR4 kR5 fR0 fR1 fR2 fR3 fR4 fR5 t0 t1 t2 t3 t4
    have f_6 := Fr.set6 f_5.rot1 (.int .i64 2) (.string ⟨#[]⟩) (.int .i64 0) (.slice none 0 0) (.int .i64 (lnN s l i)) (.int .i64 (clN s l i))
    clear f_5
    generalize ((((((W5.setCell ⟨R, 0, none⟩ (.int .i64 2)).setCell ⟨R, 1, none⟩ (.string ⟨#[]⟩)).setCell ⟨R, 2, none⟩ (.int .i64 0)).setCell ⟨R, 3, none⟩ (.slice none 0 0)).setCell ⟨R, 4, none⟩ (.int .i64 (lnN s l i))).setCell ⟨R, 5, none⟩ (.int .i64 (clN s l i))) = W6 at *
    obtain ⟨hh, hG⟩ := Got.mk0 (q := aloneN s l rec i) (ExIn.lit (op := 2) (name := ⟨#[]⟩) (n := 0) (by simp [I64]) nil_le (by simp [I64]) (hK i).1 (hK i).2.1) f_6.sm f_6.gr (t := 1) (by omega) (fun _ _ => by omega) (by rw [alone_false q0 q1]; exact ⟨rfl, rfl, rfl⟩)
    obtain ⟨r0, r1, r2, r3, r4, r5, -⟩ := blk6 f_6.blk
    try simp only [Exit.inBlock, Exit.then]
    exact bodyPost_ret (v := .agg #[.int .i64 2, .string ⟨#[]⟩, .int .i64 0, .slice none 0 0, .int .i64 (lnN s l i), .int .i64 (clN s l i)]) (by simp [results, Try.results45, go_sem, r0, r1, r2, r3, r4, r5]) rfl ⟨mkEx 2 ⟨#[]⟩ 0 [] (lnN s l i) (clN s l i), none, 0, hh, _, rfl, hG⟩

set_option maxHeartbeats 4000000 in
set_option maxRecDepth 100000 in
theorem ralone_int {s : ByteArray} {l : List Tk} {P g : Nat} (hE : Ended l) (hK : TkOk s l)  {L : Int} {rec : Int → Nat → PR} {w : World} {k : Nat} (h : Sm s l P g w (.ok k)) (hk : (tkN l k).kind = 2) :
    Calls Try.prog 45 #[.pointer (some ⟨P, 0, none⟩), .int .i64 L] w fun r w' => ∃ e A c t m', r = .returned (e.val A c) ∧ Got s l P g w (aloneN s l rec k) 30 w' e A c t m' := by
  go_enter Try.func45, Try.ntmps45
  have f_1 := PF.start h
  go_upto_region 1 with fail
  have f_2 := f_1.alloc (.cells #[.int .i64 0, .string ⟨#[]⟩, .int .i64 0, .slice none 0 0, .int .i64 0, .int .i64 0] 27)
  have z_2 := alloc_size w (.cells #[.int .i64 0, .string ⟨#[]⟩, .int .i64 0, .slice none 0 0, .int .i64 0, .int .i64 0] 27)
  clear f_1
  generalize w.heap.size = R at *
  generalize w.alloc (.cells #[.int .i64 0, .string ⟨#[]⟩, .int .i64 0, .slice none 0 0, .int .i64 0, .int .i64 0] 27) = W2 at *
  clear z_2
  go_upto_region 1 with fail
  obtain ⟨i, crd, ⟨hlt_i, hj_i, hx1, hx2⟩, ⟨c0, c1, k0, k1, k2, k3, k4⟩, ⟨d0, d1, e0, e1, e2, e3, e4⟩⟩ := f_2.reads (.cells #[.int .i64 0, .string ⟨#[]⟩, .int .i64 0, .int .i64 0, .int .i64 0] 54)
  obtain rfl : i = k := hj_i k rfl
  have hk2 : ((tkN l i).kind == 2) = true := by simp [hk]
  have hlt1 := hE i hlt_i (by omega)
  have hkH := hid hk
  clear hk
  go_cut [5] from 8 to 17 (fun p wx => ∃ T1, p = .pointer (some ⟨T1, 0, none⟩) ∧ PF s l P g w (.ok i) wx (blkK T1 (.cells #[.int .i64 (tkN l i).kind, .string (tkN l i).text, .int .i64 (tkN l i).num, .int .i64 (lnN s l i), .int .i64 (clN s l i)] 54 (0, 0)) :: blkK R (.cells #[.int .i64 0, .string ⟨#[]⟩, .int .i64 0, .slice none 0 0, .int .i64 0, .int .i64 0] 27 (0, 0)) :: []))
  case first =>
    go_region
    all_goals
      go_wp2_with fail
      go_meet
      case rel => exact ⟨_, rfl, (Fr.alloc f_2 (.cells #[.int .i64 (tkN l i).kind, .string (tkN l i).text, .int .i64 (tkN l i).num, .int .i64 (lnN s l i), .int .i64 (clN s l i)] 54)).drew⟩
  case rest =>
    obtain ⟨T, rfl, f_3⟩ := hcut
    clear c0 c1 k0 k1 k2 k3 k4 d0 d1 e0 e1 e2 e3 e4 f_2
    go_wp2_with fail
    refine ((rtake_no (t := ⟨#[116, 114, 117, 101]⟩) hE f_3.sm (isN_off (.inr hkH.out)))).mono ?_
    rintro r W4 ⟨rfl, t_4, q_4⟩
    have f_4 := f_3.turn t_4 q_4
    clear f_3 t_4 q_4
    go_wp2_with fail
    refine ((rtake_no (t := ⟨#[102, 97, 108, 115, 101]⟩) hE f_4.sm (isN_off (.inr hkH.out)))).mono ?_
    rintro r W5 ⟨rfl, t_5, q_5⟩
    have f_5 := f_4.turn t_5 q_5
    clear f_4 t_5 q_5
    go_wp2_with fail
    refine ((rtake_no (t := ⟨#[109, 101, 114, 103, 101]⟩) hE f_5.sm (isN_off (.inr hkH.out)))).mono ?_
    rintro r W6 ⟨rfl, t_6, q_6⟩
    have f_6 := f_5.turn t_6 q_6
    clear f_5 t_6 q_6
    obtain ⟨t0, t1, t2, t3, t4, -⟩ := blk5 f_6.blk
    go_upto_region 12 with fail
    clear hk2 t0 t1 t2 t3 t4
    obtain ⟨p1, p1f, i1, hi1, hwr⟩ := f_6.at1
    go_upto_region 13 with fail
    clear p1 p1f hwr
    have f_7 := f_6.up (j := i1) (by subst hi1; exact hlt1)
    clear f_6
    generalize W6.setCell ⟨P, 1, none⟩ (.int .i64 (i1 : Int)) = W7 at *
    obtain ⟨t0, t1, t2, t3, t4, -⟩ := blk5 f_7.blk
    obtain ⟨kR0, kR1, kR2, kR3, kR4, kR5, fR0, fR1, fR2, fR3, fR4, fR5⟩ := blk6 f_7.rot1.blk
    go_wp2_with fail
    clear kR0 kR1 kR2 kR3 kR4 kR5 fR0 fR1 fR2 fR3 fR4 fR5 t0 t1 t2 t3 t4
    have f_8 := Fr.set6 f_7.rot1 (.int .i64 1) (.string ⟨#[]⟩) (.int .i64 (tkN l i).num) (.slice none 0 0) (.int .i64 (lnN s l i)) (.int .i64 (clN s l i))
    clear f_7
    generalize ((((((W7.setCell ⟨R, 0, none⟩ (.int .i64 1)).setCell ⟨R, 1, none⟩ (.string ⟨#[]⟩)).setCell ⟨R, 2, none⟩ (.int .i64 (tkN l i).num)).setCell ⟨R, 3, none⟩ (.slice none 0 0)).setCell ⟨R, 4, none⟩ (.int .i64 (lnN s l i))).setCell ⟨R, 5, none⟩ (.int .i64 (clN s l i))) = W8 at *
    subst hi1
    obtain ⟨hh, hG⟩ := Got.mk0 (q := aloneN s l rec i) (ExIn.lit (op := 1) (name := ⟨#[]⟩) (n := (tkN l i).num) (by simp [I64]) nil_le (hK i).2.2.2 (hK i).1 (hK i).2.1) f_8.sm f_8.gr (t := 1) (by omega) (fun _ _ => by omega) (by rw [alone_int hkH.out]; exact ⟨rfl, rfl, rfl⟩)
    obtain ⟨r0, r1, r2, r3, r4, r5, -⟩ := blk6 f_8.blk
    try simp only [Exit.inBlock, Exit.then]
    exact bodyPost_ret (v := .agg #[.int .i64 1, .string ⟨#[]⟩, .int .i64 (tkN l i).num, .slice none 0 0, .int .i64 (lnN s l i), .int .i64 (clN s l i)]) (by simp [results, Try.results45, go_sem, r0, r1, r2, r3, r4, r5]) rfl ⟨mkEx 1 ⟨#[]⟩ (tkN l i).num [] (lnN s l i) (clN s l i), none, 0, hh, _, rfl, hG⟩

set_option maxHeartbeats 4000000 in
set_option maxRecDepth 100000 in
theorem ralone_in {s : ByteArray} {l : List Tk} {P g : Nat} (hE : Ended l)   {L : Int} {rec : Int → Nat → PR} {w : World} {k : Nat} (h : Sm s l P g w (.ok k)) (hk : (tkN l k).kind ≠ 1 ∧ (tkN l k).kind ≠ 2) (q0 : isN l k wTrue = false) (q1 : isN l k wFalse = false) (q2 : isN l k wMerge = false)
    (hW : ∀ (m : Md) (w : World), Sm s l P g w m → Calls Try.prog 72 #[.pointer (some ⟨P, 0, none⟩), .int .i64 L] w fun r w' => ∃ e A c t m', r = .returned (e.val A c) ∧ Got s l P g w (m.seq (fun i => withinN s l rec i .ok)) 30 w' e A c t m') :
    Calls Try.prog 45 #[.pointer (some ⟨P, 0, none⟩), .int .i64 L] w fun r w' => ∃ e A c t m', r = .returned (e.val A c) ∧ Got s l P g w (aloneN s l rec k) 30 w' e A c t m' := by
  go_enter Try.func45, Try.ntmps45
  have f_1 := PF.start h
  go_upto_region 1 with fail
  have f_2 := f_1.alloc (.cells #[.int .i64 0, .string ⟨#[]⟩, .int .i64 0, .slice none 0 0, .int .i64 0, .int .i64 0] 27)
  have z_2 := alloc_size w (.cells #[.int .i64 0, .string ⟨#[]⟩, .int .i64 0, .slice none 0 0, .int .i64 0, .int .i64 0] 27)
  clear f_1
  generalize w.heap.size = R at *
  generalize w.alloc (.cells #[.int .i64 0, .string ⟨#[]⟩, .int .i64 0, .slice none 0 0, .int .i64 0, .int .i64 0] 27) = W2 at *
  clear z_2
  go_upto_region 1 with fail
  obtain ⟨i, crd, ⟨hlt_i, hj_i, hx1, hx2⟩, ⟨c0, c1, k0, k1, k2, k3, k4⟩, ⟨d0, d1, e0, e1, e2, e3, e4⟩⟩ := f_2.reads (.cells #[.int .i64 0, .string ⟨#[]⟩, .int .i64 0, .int .i64 0, .int .i64 0] 54)
  obtain rfl : i = k := hj_i k rfl
  have hk2 : ((tkN l i).kind == 2) = false := by simp only [beq_eq_false_iff_ne]; exact hk.2
  have hk1 : ((tkN l i).kind != 1) = true := by simp [hk.1]
  have hkH := hid hk
  clear hk
  go_cut [5] from 8 to 17 (fun p wx => ∃ T1, p = .pointer (some ⟨T1, 0, none⟩) ∧ PF s l P g w (.ok i) wx (blkK T1 (.cells #[.int .i64 (tkN l i).kind, .string (tkN l i).text, .int .i64 (tkN l i).num, .int .i64 (lnN s l i), .int .i64 (clN s l i)] 54 (0, 0)) :: blkK R (.cells #[.int .i64 0, .string ⟨#[]⟩, .int .i64 0, .slice none 0 0, .int .i64 0, .int .i64 0] 27 (0, 0)) :: []))
  case first =>
    go_region
    all_goals
      go_wp2_with fail
      go_meet
      case rel => exact ⟨_, rfl, (Fr.alloc f_2 (.cells #[.int .i64 (tkN l i).kind, .string (tkN l i).text, .int .i64 (tkN l i).num, .int .i64 (lnN s l i), .int .i64 (clN s l i)] 54)).drew⟩
  case rest =>
    obtain ⟨T, rfl, f_3⟩ := hcut
    clear c0 c1 k0 k1 k2 k3 k4 d0 d1 e0 e1 e2 e3 e4 f_2
    go_wp2_with fail
    refine ((rtake_no (t := ⟨#[116, 114, 117, 101]⟩) hE f_3.sm q0)).mono ?_
    rintro r W4 ⟨rfl, t_4, q_4⟩
    have f_4 := f_3.turn t_4 q_4
    clear f_3 t_4 q_4
    go_wp2_with fail
    refine ((rtake_no (t := ⟨#[102, 97, 108, 115, 101]⟩) hE f_4.sm q1)).mono ?_
    rintro r W5 ⟨rfl, t_5, q_5⟩
    have f_5 := f_4.turn t_5 q_5
    clear f_4 t_5 q_5
    go_wp2_with fail
    refine ((rtake_no (t := ⟨#[109, 101, 114, 103, 101]⟩) hE f_5.sm q2)).mono ?_
    rintro r W6 ⟨rfl, t_6, q_6⟩
    have f_6 := f_5.turn t_6 q_6
    clear f_5 t_6 q_6
    obtain ⟨t0, t1, t2, t3, t4, -⟩ := blk5 f_6.blk
    go_wp2_with fail
    clear hk2 hk1 t0 t1 t2 t3 t4
    refine (hW (.ok i) _ f_6.sm).mono ?_
    rintro r W7 ⟨ex, Ax, cx, tx, mx, rfl, Gx⟩
    obtain ⟨Dx, f_7⟩ := f_6.expr Gx
    obtain ⟨lowx, topx, okx, camex⟩ := Gx.facts
    clear f_6 Gx
    simp only [Ex.val_eq]
    obtain ⟨kR0, kR1, kR2, kR3, kR4, kR5, fR0, fR1, fR2, fR3, fR4, fR5⟩ := blk6 f_7.rot2.blk
    go_wp2_with fail
    clear kR0 kR1 kR2 kR3 kR4 kR5 fR0 fR1 fR2 fR3 fR4 fR5
    have f_8 := Fr.set6 f_7.rot2 (.int .i64 ex.op) (.string ex.name) (.int .i64 ex.num) (.slice Ax ex.k cx) (.int .i64 ex.line) (.int .i64 ex.col)
    clear f_7
    generalize ((((((W7.setCell ⟨R, 0, none⟩ (.int .i64 ex.op)).setCell ⟨R, 1, none⟩ (.string ex.name)).setCell ⟨R, 2, none⟩ (.int .i64 ex.num)).setCell ⟨R, 3, none⟩ (.slice Ax ex.k cx)).setCell ⟨R, 4, none⟩ (.int .i64 ex.line)).setCell ⟨R, 5, none⟩ (.int .i64 ex.col)) = W8 at *
    have fin := f_8.rot1
    obtain ⟨hh, hG⟩ := Got.mk0 (q := aloneN s l rec i) fin.ex f_8.sm f_8.gr lowx okx (by rw [alone_in hkH.out q0 q1 q2]; exact camex.out)
    obtain ⟨r0, r1, r2, r3, r4, r5, -⟩ := blk6 f_8.blk
    try simp only [Exit.inBlock, Exit.then]
    exact bodyPost_ret (v := .agg #[.int .i64 ex.op, .string ex.name, .int .i64 ex.num, .slice Ax ex.k cx, .int .i64 ex.line, .int .i64 ex.col]) (by simp [results, Try.results45, go_sem, r0, r1, r2, r3, r4, r5]) rfl ⟨ex, Ax, cx, hh, _, rfl, hG⟩

set_option maxHeartbeats 4000000 in
set_option maxRecDepth 100000 in
theorem ralone_var {s : ByteArray} {l : List Tk} {P g : Nat} (hE : Ended l) (hK : TkOk s l)  {L : Int} {rec : Int → Nat → PR} {w : World} {k : Nat} (h : Sm s l P g w (.ok k)) (hk : (tkN l k).kind = 1) (q : isN l (k + 1) wOpen = false) :
    Calls Try.prog 45 #[.pointer (some ⟨P, 0, none⟩), .int .i64 L] w fun r w' => ∃ e A c t m', r = .returned (e.val A c) ∧ Got s l P g w (aloneN s l rec k) 30 w' e A c t m' := by
  go_enter Try.func45, Try.ntmps45
  have f_1 := PF.start h
  go_upto_region 1 with fail
  have f_2 := f_1.alloc (.cells #[.int .i64 0, .string ⟨#[]⟩, .int .i64 0, .slice none 0 0, .int .i64 0, .int .i64 0] 27)
  have z_2 := alloc_size w (.cells #[.int .i64 0, .string ⟨#[]⟩, .int .i64 0, .slice none 0 0, .int .i64 0, .int .i64 0] 27)
  clear f_1
  generalize w.heap.size = R at *
  generalize w.alloc (.cells #[.int .i64 0, .string ⟨#[]⟩, .int .i64 0, .slice none 0 0, .int .i64 0, .int .i64 0] 27) = W2 at *
  clear z_2
  go_upto_region 1 with fail
  obtain ⟨i, crd, ⟨hlt_i, hj_i, hx1, hx2⟩, ⟨c0, c1, k0, k1, k2, k3, k4⟩, ⟨d0, d1, e0, e1, e2, e3, e4⟩⟩ := f_2.reads (.cells #[.int .i64 0, .string ⟨#[]⟩, .int .i64 0, .int .i64 0, .int .i64 0] 54)
  obtain rfl : i = k := hj_i k rfl
  have hk2 : ((tkN l i).kind == 2) = false := by simp only [beq_eq_false_iff_ne]; omega
  have hk1 : ((tkN l i).kind != 1) = false := by simp [hk]
  have hlt1 := hE i hlt_i (by omega)
  have hkH := hid hk
  clear hk
  go_cut [5] from 8 to 17 (fun p wx => ∃ T1, p = .pointer (some ⟨T1, 0, none⟩) ∧ PF s l P g w (.ok i) wx (blkK T1 (.cells #[.int .i64 (tkN l i).kind, .string (tkN l i).text, .int .i64 (tkN l i).num, .int .i64 (lnN s l i), .int .i64 (clN s l i)] 54 (0, 0)) :: blkK R (.cells #[.int .i64 0, .string ⟨#[]⟩, .int .i64 0, .slice none 0 0, .int .i64 0, .int .i64 0] 27 (0, 0)) :: []))
  case first =>
    go_region
    all_goals
      go_wp2_with fail
      go_meet
      case rel => exact ⟨_, rfl, (Fr.alloc f_2 (.cells #[.int .i64 (tkN l i).kind, .string (tkN l i).text, .int .i64 (tkN l i).num, .int .i64 (lnN s l i), .int .i64 (clN s l i)] 54)).drew⟩
  case rest =>
    obtain ⟨T, rfl, f_3⟩ := hcut
    clear c0 c1 k0 k1 k2 k3 k4 d0 d1 e0 e1 e2 e3 e4 f_2
    go_wp2_with fail
    refine ((rtake_no (t := ⟨#[116, 114, 117, 101]⟩) hE f_3.sm (isN_off (.inl hkH.out)))).mono ?_
    rintro r W4 ⟨rfl, t_4, q_4⟩
    have f_4 := f_3.turn t_4 q_4
    clear f_3 t_4 q_4
    go_wp2_with fail
    refine ((rtake_no (t := ⟨#[102, 97, 108, 115, 101]⟩) hE f_4.sm (isN_off (.inl hkH.out)))).mono ?_
    rintro r W5 ⟨rfl, t_5, q_5⟩
    have f_5 := f_4.turn t_5 q_5
    clear f_4 t_5 q_5
    go_wp2_with fail
    refine ((rtake_no (t := ⟨#[109, 101, 114, 103, 101]⟩) hE f_5.sm (isN_off (.inl hkH.out)))).mono ?_
    rintro r W6 ⟨rfl, t_6, q_6⟩
    have f_6 := f_5.turn t_6 q_6
    clear f_5 t_6 q_6
    obtain ⟨t0, t1, t2, t3, t4, -⟩ := blk5 f_6.blk
    go_upto_region 16 with fail
    clear hk2 hk1 t0 t1 t2 t3 t4
    obtain ⟨p1, p1f, i1, hi1, hwr⟩ := f_6.at1
    go_upto_region 17 with fail
    clear p1 p1f hwr
    have f_7 := f_6.up (j := i1) (by subst hi1; exact hlt1)
    clear f_6
    generalize W6.setCell ⟨P, 1, none⟩ (.int .i64 (i1 : Int)) = W7 at *
    go_wp2_with fail
    refine ((ris_val (t := ⟨#[40]⟩) f_7.sm (b := false) (by subst hi1; exact q))).mono ?_
    rintro r W8 ⟨rfl, t_8, q_8⟩
    have f_8 := f_7.turn t_8 q_8
    clear f_7 t_8 q_8
    obtain ⟨t0, t1, t2, t3, t4, -⟩ := blk5 f_8.blk
    obtain ⟨kR0, kR1, kR2, kR3, kR4, kR5, fR0, fR1, fR2, fR3, fR4, fR5⟩ := blk6 f_8.rot1.blk
    go_wp2_with fail
    clear kR0 kR1 kR2 kR3 kR4 kR5 fR0 fR1 fR2 fR3 fR4 fR5 t0 t1 t2 t3 t4
    have f_9 := Fr.set6 f_8.rot1 (.int .i64 3) (.string (tkN l i).text) (.int .i64 0) (.slice none 0 0) (.int .i64 (lnN s l i)) (.int .i64 (clN s l i))
    clear f_8
    generalize ((((((W8.setCell ⟨R, 0, none⟩ (.int .i64 3)).setCell ⟨R, 1, none⟩ (.string (tkN l i).text)).setCell ⟨R, 2, none⟩ (.int .i64 0)).setCell ⟨R, 3, none⟩ (.slice none 0 0)).setCell ⟨R, 4, none⟩ (.int .i64 (lnN s l i))).setCell ⟨R, 5, none⟩ (.int .i64 (clN s l i))) = W9 at *
    subst hi1
    obtain ⟨hh, hG⟩ := Got.mk0 (q := aloneN s l rec i) (ExIn.lit (op := 3) (name := (tkN l i).text) (n := 0) (by simp [I64]) (hK i).2.2.1 (by simp [I64]) (hK i).1 (hK i).2.1) f_9.sm f_9.gr (t := 1) (by omega) (fun _ _ => by omega) (by rw [alone_var hkH.out q]; exact ⟨rfl, rfl, rfl⟩)
    obtain ⟨r0, r1, r2, r3, r4, r5, -⟩ := blk6 f_9.blk
    try simp only [Exit.inBlock, Exit.then]
    exact bodyPost_ret (v := .agg #[.int .i64 3, .string (tkN l i).text, .int .i64 0, .slice none 0 0, .int .i64 (lnN s l i), .int .i64 (clN s l i)]) (by simp [results, Try.results45, go_sem, r0, r1, r2, r3, r4, r5]) rfl ⟨mkEx 3 (tkN l i).text 0 [] (lnN s l i) (clN s l i), none, 0, hh, _, rfl, hG⟩

set_option maxHeartbeats 4000000 in
set_option maxRecDepth 100000 in
theorem ralone_call {s : ByteArray} {l : List Tk} {P g : Nat} (hE : Ended l) (hK : TkOk s l) {L1 : Int} {L : Int} (hL : IntKind.i64.wrap (L + 1) = L1) {rec : Int → Nat → PR} {w : World} {k : Nat} (h : Sm s l P g w (.ok k)) (hk : (tkN l k).kind = 1) (q : isN l (k + 1) wOpen = true) (hN : RNext s l P g L1 rec) :
    Calls Try.prog 45 #[.pointer (some ⟨P, 0, none⟩), .int .i64 L] w fun r w' => ∃ e A c t m', r = .returned (e.val A c) ∧ Got s l P g w (aloneN s l rec k) 30 w' e A c t m' := by
  go_enter Try.func45, Try.ntmps45
  have f_1 := PF.start h
  go_upto_region 1 with fail
  have f_2 := f_1.alloc (.cells #[.int .i64 0, .string ⟨#[]⟩, .int .i64 0, .slice none 0 0, .int .i64 0, .int .i64 0] 27)
  have z_2 := alloc_size w (.cells #[.int .i64 0, .string ⟨#[]⟩, .int .i64 0, .slice none 0 0, .int .i64 0, .int .i64 0] 27)
  clear f_1
  generalize w.heap.size = R at *
  generalize w.alloc (.cells #[.int .i64 0, .string ⟨#[]⟩, .int .i64 0, .slice none 0 0, .int .i64 0, .int .i64 0] 27) = W2 at *
  clear z_2
  go_upto_region 1 with fail
  obtain ⟨i, crd, ⟨hlt_i, hj_i, hx1, hx2⟩, ⟨c0, c1, k0, k1, k2, k3, k4⟩, ⟨d0, d1, e0, e1, e2, e3, e4⟩⟩ := f_2.reads (.cells #[.int .i64 0, .string ⟨#[]⟩, .int .i64 0, .int .i64 0, .int .i64 0] 54)
  obtain rfl : i = k := hj_i k rfl
  have hk2 : ((tkN l i).kind == 2) = false := by simp only [beq_eq_false_iff_ne]; omega
  have hk1 : ((tkN l i).kind != 1) = false := by simp [hk]
  have hlt1 := hE i hlt_i (by omega)
  have hkH := hid hk
  clear hk
  go_cut [5] from 8 to 17 (fun p wx => ∃ T1, p = .pointer (some ⟨T1, 0, none⟩) ∧ PF s l P g w (.ok i) wx (blkK T1 (.cells #[.int .i64 (tkN l i).kind, .string (tkN l i).text, .int .i64 (tkN l i).num, .int .i64 (lnN s l i), .int .i64 (clN s l i)] 54 (0, 0)) :: blkK R (.cells #[.int .i64 0, .string ⟨#[]⟩, .int .i64 0, .slice none 0 0, .int .i64 0, .int .i64 0] 27 (0, 0)) :: []))
  case first =>
    go_region
    all_goals
      go_wp2_with fail
      go_meet
      case rel => exact ⟨_, rfl, (Fr.alloc f_2 (.cells #[.int .i64 (tkN l i).kind, .string (tkN l i).text, .int .i64 (tkN l i).num, .int .i64 (lnN s l i), .int .i64 (clN s l i)] 54)).drew⟩
  case rest =>
    obtain ⟨T, rfl, f_3⟩ := hcut
    clear c0 c1 k0 k1 k2 k3 k4 d0 d1 e0 e1 e2 e3 e4 f_2
    go_wp2_with fail
    refine ((rtake_no (t := ⟨#[116, 114, 117, 101]⟩) hE f_3.sm (isN_off (.inl hkH.out)))).mono ?_
    rintro r W4 ⟨rfl, t_4, q_4⟩
    have f_4 := f_3.turn t_4 q_4
    clear f_3 t_4 q_4
    go_wp2_with fail
    refine ((rtake_no (t := ⟨#[102, 97, 108, 115, 101]⟩) hE f_4.sm (isN_off (.inl hkH.out)))).mono ?_
    rintro r W5 ⟨rfl, t_5, q_5⟩
    have f_5 := f_4.turn t_5 q_5
    clear f_4 t_5 q_5
    go_wp2_with fail
    refine ((rtake_no (t := ⟨#[109, 101, 114, 103, 101]⟩) hE f_5.sm (isN_off (.inl hkH.out)))).mono ?_
    rintro r W6 ⟨rfl, t_6, q_6⟩
    have f_6 := f_5.turn t_6 q_6
    clear f_5 t_6 q_6
    obtain ⟨t0, t1, t2, t3, t4, -⟩ := blk5 f_6.blk
    go_upto_region 16 with fail
    clear hk2 hk1 t0 t1 t2 t3 t4
    obtain ⟨p1, p1f, i1, hi1, hwr⟩ := f_6.at1
    go_upto_region 17 with fail
    clear p1 p1f hwr
    have f_7 := f_6.up (j := i1) (by subst hi1; exact hlt1)
    clear f_6
    generalize W6.setCell ⟨P, 1, none⟩ (.int .i64 (i1 : Int)) = W7 at *
    go_wp2_with fail
    have q2 : isN l i1 wOpen = true := by rw [← hi1]; exact q
    have hi1H := hid hi1
    clear hi1 q
    refine ((ris_val (t := ⟨#[40]⟩) f_7.sm (b := true) q2)).mono ?_
    rintro r W8 ⟨rfl, t_8, q_8⟩
    have f_8 := f_7.turn t_8 q_8
    clear f_7 t_8 q_8
    obtain ⟨t0, t1, t2, t3, t4, -⟩ := blk5 f_8.blk
    go_upto_region 20 with fail
    clear t0 t1 t2 t3 t4
    have f_9 := f_8.alloc (.cells #[.int .i64 4, .string (tkN l i).text, .int .i64 0, .slice none 0 0, .int .i64 (lnN s l i), .int .i64 (clN s l i)] 27)
    have z_9 := alloc_size W8 (.cells #[.int .i64 4, .string (tkN l i).text, .int .i64 0, .slice none 0 0, .int .i64 (lnN s l i), .int .i64 (clN s l i)] 27)
    clear f_8
    generalize W8.heap.size = E at *
    generalize W8.alloc (.cells #[.int .i64 4, .string (tkN l i).text, .int .i64 0, .slice none 0 0, .int .i64 (lnN s l i), .int .i64 (clN s l i)] 27) = W9 at *
    clear z_9
    go_wp2_with fail
    refine ((rwant_yes (t := ⟨#[40]⟩) hE f_9.sm q2)).mono ?_
    rintro r W10 ⟨rfl, t_10, q_10⟩
    have f_10 := f_9.turn t_10 q_10
    clear f_9 t_10 q_10
    go_wp2_with fail
    refine (hN _ _ f_10.sm).mono ?_
    rintro r W11 ⟨rfl, m_11, t_11, q_11, hS⟩
    have f_11 := f_10.turn t_11 q_11
    clear f_10 t_11 q_11
    obtain ⟨ie, ze, hie, hze, hse, hbe, hce⟩ := Expr.info'
    go_upto_region 22 with fail
    have f_e := f_11.rot1.rot2.rot2
    have f_f := f_e.nilRow 27 6
    clear f_e f_11
    have f_g : PF s l P g w m_11 W11 (rowK w 27 6 (.slice none 0 0) 0 ((([] : List LX).map LX.x).flatMap LEx.cells) :: blkK E (.cells #[.int .i64 4, .string (tkN l i).text, .int .i64 0, .slice none 0 0, .int .i64 (lnN s l i), .int .i64 (clN s l i)] 27 (0, 0)) :: blkK R (.cells #[.int .i64 0, .string ⟨#[]⟩, .int .i64 0, .slice none 0 0, .int .i64 0, .int .i64 0] 27 (0, 0)) :: blkK T (.cells #[.int .i64 (tkN l i).kind, .string (tkN l i).text, .int .i64 (tkN l i).num, .int .i64 (lnN s l i), .int .i64 (clN s l i)] 54 (0, 0)) :: ([] : List LX).map LX.kp) := f_f
    clear f_f
    go_upto_region 22 with fail
    go_cut [] from 103 to 111 (fun wx => ∃ (ex : Ex) (Ax : Option Addr) (cx : Nat) (tx : Int) (mx : Md) (Dx : Nat → Prop) (Gx capx : Nat), PF s l P g w mx wx (rowK w 27 6 (.slice (some ⟨Gx, 0, none⟩) 1 capx) 1 (((([] : List LX) ++ [LX.mk Dx ⟨ex, Ax, cx⟩]).map LX.x).flatMap LEx.cells) :: blkK E (.cells #[.int .i64 4, .string (tkN l i).text, .int .i64 0, .slice (some ⟨Gx, 0, none⟩) 1 capx, .int .i64 (lnN s l i), .int .i64 (clN s l i)] 27 (0, 0)) :: blkK R (.cells #[.int .i64 0, .string ⟨#[]⟩, .int .i64 0, .slice none 0 0, .int .i64 0, .int .i64 0] 27 (0, 0)) :: blkK T (.cells #[.int .i64 (tkN l i).kind, .string (tkN l i).text, .int .i64 (tkN l i).num, .int .i64 (lnN s l i), .int .i64 (clN s l i)] 54 (0, 0)) :: (([] : List LX) ++ [LX.mk Dx ⟨ex, Ax, cx⟩]).map LX.kp) ∧ (0 ≤ tx ∧ ∀ i, mx = .ok i → tx ≤ 30) ∧ Hid (Came ((Md.ok (i1 + 1)).seq (rec 0)) mx ex tx))
    case first =>
      have f_s := f_g.rot3.rot3.rot3.rot3
      have hsH := hid f_s
      obtain ⟨kvE0, kvE1, kvE2, kvE3, kvE4, kvE5, fvE0, fvE1, fvE2, fvE3, fvE4, fvE5⟩ := blk6 f_s.rot1.blk
      go_region_law (first | (refine Fr.stepApp ((f_r.alloc (.cells #[.int .i64 ex.op, .string ex.name, .int .i64 ex.num, .slice Ax ex.k cx, .int .i64 ex.line, .int .i64 ex.col] 27)).rot2.rot1) rfl _ _ _ rfl Try.underlying23 hie hze hse hbe hce (by decide) rfl rfl rfl ex_one (by decide) (by unfold maxLen; omega) (by omega) ?_; intro Gx capx W_a f_a; obtain ⟨kyE0, kyE1, kyE2, kyE3, kyE4, kyE5, fyE0, fyE1, fyE2, fyE3, fyE4, fyE5⟩ := blk6 f_a.rot3.blk; have f_z := Fr.set (n := 3) f_a.rot3 (.slice (some ⟨Gx, 0, none⟩) 1 capx); simp only [List.setIfInBounds_toArray, List.set_cons_zero, List.set_cons_succ] at f_z; have f_z := hid f_z) | (go_simp; go_at_call 17; (with_reducible refine (hS 0 _ (by omega) (by omega) (Fr.sm (Fr.drew hsH.out))).mono ?_); rintro r W_r ⟨ex, Ax, cx, tx, mx, rfl, Gx⟩; obtain ⟨Dx, f_r⟩ := (Fr.drew hsH.out).expr Gx; obtain ⟨lowx, topx, okx, camex⟩ := Gx.facts; simp only [Ex.val_eq]; obtain ⟨kuE0, kuE1, kuE2, kuE3, kuE4, kuE5, fuE0, fuE1, fuE2, fuE3, fuE4, fuE5⟩ := blk6 f_r.rot2.blk; obtain ⟨kwE0, kwE1, kwE2, kwE3, kwE4, kwE5, fwE0, fwE1, fwE2, fwE3, fwE4, fwE5⟩ := blk6 (f_r.alloc (.cells #[.int .i64 ex.op, .string ex.name, .int .i64 ex.num, .slice Ax ex.k cx, .int .i64 ex.line, .int .i64 ex.col] 27)).rot3.blk))
      all_goals
        go_wp2_with fail
        go_meet
        case rel =>
          have f_q := f_z.out.rot2.tail
          refine ⟨ex, Ax, cx, tx, mx, Dx, Gx, capx, ?_, ⟨lowx, okx⟩, camex⟩
          rw [rows_push]
          exact (f_q.rot1.rot2).perm (push_perm _ [_, _, _, _] _ _ _ _)
    case rest =>
      obtain ⟨ex, Ax, cx, tx, mx, Dx, Gx, capx, f_12, ⟨lowx, okx⟩, camex⟩ := hcut
      clear f_g
      clear hS
      go_wp2_with fail
      go_loopg [] 8 (fun gk wr => ∃ (n : Nat) (A : Option Addr) (cc : Nat) (xs : List LX) (m1 : Md), n ≤ 8 ∧ xs.length = n ∧ PF s l P g w m1 wr (rowK w 27 6 (.slice A n cc) n ((xs.map LX.x).flatMap LEx.cells) :: blkK E (.cells #[.int .i64 4, .string (tkN l i).text, .int .i64 0, .slice A n cc, .int .i64 (lnN s l i), .int .i64 (clN s l i)] 27 (0, 0)) :: blkK R (.cells #[.int .i64 0, .string ⟨#[]⟩, .int .i64 0, .slice none 0 0, .int .i64 0, .int .i64 0] 27 (0, 0)) :: blkK T (.cells #[.int .i64 (tkN l i).kind, .string (tkN l i).text, .int .i64 (tkN l i).num, .int .i64 (lnN s l i), .int .i64 (clN s l i)] 54 (0, 0)) :: xs.map LX.kp) ∧ (∀ j, m1 = .ok j → n + gk = 9 ∧ ∀ y ∈ LX.es xs, y.height ≤ 30) ∧ Hid (aloneN s l rec i = m1.seq (argsN s l rec (tkN l i).text i (8 - n) (LX.es xs))))
      case atStart =>
        refine ⟨1, _, _, _, mx, by omega, rfl, f_12, fun j hj => ⟨rfl, fun y hy => ?_⟩, ?_⟩
        · have : y = ex := by simpa [LX.es] using hy
          subst this
          exact came_high camex.out okx hj
        · show _ = _
          have hi2 := hi1H.out
          subst hi2
          rw [alone_call hkH.out q2, show rec 0 (i + 2) = (Md.ok (i + 1 + 1)).seq (rec 0) from rfl, came_then camex.out]
          rfl
      case round =>
        clear camex okx lowx f_12
        obtain ⟨n, A, cc, xs, m1, hn8, hyn, f_0, hok, hq⟩ := hrel
        have hokH := hid hok
        clear hok
        by_cases hcm : m1.is l wComma = true
        · obtain ⟨i2, him, hi2⟩ := is_yes hcm
          subst him
          go_wp2_with fail
          refine ((ris_val (t := ⟨#[44]⟩) f_0.sm (b := true) hi2)).mono ?_
          rintro r W13 ⟨rfl, t_13, q_13⟩
          have f_13 := f_0.turn t_13 q_13
          clear f_0 t_13 q_13
          by_cases h8 : n = 8
          · have h8i : ((n : Int) == 8) = true := by simp only [beq_iff_eq]; omega
            have h8H := hid h8
            clear h8
            obtain ⟨kE0, kE1, kE2, kE3, kE4, kE5, fE0, fE1, fE2, fE3, fE4, fE5⟩ := blk6 f_13.rot1.blk
            go_upto_region 25 with fail
            clear kE0 kE1 kE2 kE3 kE4 kE5 fE0 fE1 fE2 fE3 fE4 fE5 h8i
            obtain ⟨i3, crd, ⟨hlt_i3, hj_i3, hx1, hx2⟩, ⟨c0, c1, k0, k1, k2, k3, k4⟩, ⟨d0, d1, e0, e1, e2, e3, e4⟩⟩ := f_13.reads (.cells #[.int .i64 0] 27)
            obtain rfl : i2 = i3 := (hj_i3 i2 rfl).symm
            have hsH := hid f_13
            go_region_with (go_at_call 18; (with_reducible refine (rfail_m (Fr.sm (Fr.drew hsH.out)) (e := 3) (by decide) _ _).mono ?_); rintro r W_r ⟨rfl, t_r, q_r⟩; have f_r := hid (Fr.turn (Fr.drew hsH.out) t_r q_r))
            all_goals
              go_wp2_with fail
              go_roundg (gk - 1)
              case rel => exact ⟨n, A, cc, xs, .bad 3 (lnN s l i2) (clN s l i2), hn8, hyn, f_r.out, (fun j hj => by cases hj), by show _ = _; rw [hq.out]; have h9 := h8H.out; subst h9; exact args_full (rec := rec) hi2⟩
              case measure => have h9 := h8H.out; have := (hokH.out _ rfl).1; omega
          · have h8i : ((n : Int) == 8) = false := by simp only [beq_eq_false_iff_ne]; omega
            obtain ⟨kE0, kE1, kE2, kE3, kE4, kE5, fE0, fE1, fE2, fE3, fE4, fE5⟩ := blk6 f_13.rot1.blk
            go_wp2_with fail
            clear kE0 kE1 kE2 kE3 kE4 kE5 fE0 fE1 fE2 fE3 fE4 fE5 h8i
            refine ((rwant_yes (t := ⟨#[44]⟩) hE f_13.sm hi2)).mono ?_
            rintro r W14 ⟨rfl, t_14, q_14⟩
            have f_14 := f_13.turn t_14 q_14
            clear f_13 t_14 q_14
            go_wp2_with fail
            refine (hN _ _ f_14.sm).mono ?_
            rintro r W15 ⟨rfl, m_15, t_15, q_15, hS⟩
            have f_15 := f_14.turn t_15 q_15
            clear f_14 t_15 q_15
            go_upto_region 28 with fail
            have f_s0 := f_15.rot3.rot3.rot3.rot3
            clear f_15
            have f_s := f_s0.rot3.rot3.rot3.rot3
            have hsH := hid f_s
            obtain ⟨kvE0, kvE1, kvE2, kvE3, kvE4, kvE5, fvE0, fvE1, fvE2, fvE3, fvE4, fvE5⟩ := blk6 f_s.rot1.blk
            go_region_law (first | (refine Fr.stepApp ((f_r.alloc (.cells #[.int .i64 ey.op, .string ey.name, .int .i64 ey.num, .slice Ay ey.k cy, .int .i64 ey.line, .int .i64 ey.col] 27)).rot2.rot1) rfl _ _ _ rfl Try.underlying23 hie hze hse hbe hce (by decide) rfl rfl rfl ex_one (by decide) (by unfold maxLen; omega) (by omega) ?_; intro Gy capy W_a f_a; obtain ⟨kyE0, kyE1, kyE2, kyE3, kyE4, kyE5, fyE0, fyE1, fyE2, fyE3, fyE4, fyE5⟩ := blk6 f_a.rot3.blk; have f_z := Fr.set (n := 3) f_a.rot3 (.slice (some ⟨Gy, 0, none⟩) (n + 1) capy); simp only [List.setIfInBounds_toArray, List.set_cons_zero, List.set_cons_succ] at f_z; have f_z := hid f_z) | (go_simp; go_at_call 17; (with_reducible refine (hS 0 _ (by omega) (by omega) (Fr.sm (Fr.drew hsH.out))).mono ?_); rintro r W_r ⟨ey, Ay, cy, ty, my, rfl, Gy⟩; obtain ⟨Dy, f_r⟩ := (Fr.drew hsH.out).expr Gy; obtain ⟨lowy, topy, oky, camey⟩ := Gy.facts; simp only [Ex.val_eq]; obtain ⟨kuE0, kuE1, kuE2, kuE3, kuE4, kuE5, fuE0, fuE1, fuE2, fuE3, fuE4, fuE5⟩ := blk6 f_r.rot2.blk; obtain ⟨kwE0, kwE1, kwE2, kwE3, kwE4, kwE5, fwE0, fwE1, fwE2, fwE3, fwE4, fwE5⟩ := blk6 (f_r.alloc (.cells #[.int .i64 ey.op, .string ey.name, .int .i64 ey.num, .slice Ay ey.k cy, .int .i64 ey.line, .int .i64 ey.col] 27)).rot3.blk))
            all_goals
              go_wp2_with fail
              have f_q := f_z.out.rot2.tail
              have f_k : PF s l P g w my (W_a.setCell ⟨E, 3, none⟩ (.slice (some ⟨Gy, 0, none⟩) (n + 1) capy)) (rowK w 27 6 (.slice (some ⟨Gy, 0, none⟩) (n + 1) capy) (n + 1) (((xs ++ [LX.mk Dy ⟨ey, Ay, cy⟩]).map LX.x).flatMap LEx.cells) :: blkK E (.cells #[.int .i64 4, .string (tkN l i).text, .int .i64 0, .slice (some ⟨Gy, 0, none⟩) (n + 1) capy, .int .i64 (lnN s l i), .int .i64 (clN s l i)] 27 (0, 0)) :: blkK R (.cells #[.int .i64 0, .string ⟨#[]⟩, .int .i64 0, .slice none 0 0, .int .i64 0, .int .i64 0] 27 (0, 0)) :: blkK T (.cells #[.int .i64 (tkN l i).kind, .string (tkN l i).text, .int .i64 (tkN l i).num, .int .i64 (lnN s l i), .int .i64 (clN s l i)] 54 (0, 0)) :: (xs ++ [LX.mk Dy ⟨ey, Ay, cy⟩]).map LX.kp) := by rw [rows_push]; exact (f_q.rot1.rot2).perm (push_perm _ [_, _, _, _] _ _ _ _)
              go_roundg (gk - 1)
              case rel =>
                refine ⟨n + 1, _, _, _, my, by omega, by simp [hyn], f_k, fun j hj => ⟨by have := (hokH.out _ rfl).1; omega, fun z hz => ?_⟩, ?_⟩
                · rw [es_push] at hz
                  rcases List.mem_append.1 hz with hz | hz
                  · exact (hokH.out _ rfl).2 z hz
                  · have : z = ey := by simpa using hz
                    subst this
                    exact came_high camey.out oky hj
                · show _ = _
                  rw [hq.out, es_push]
                  rw [show (Md.ok i2).seq (argsN s l rec (tkN l i).text i (8 - n) (LX.es xs)) = argsN s l rec (tkN l i).text i (8 - n) (LX.es xs) i2 from rfl, args_on hi2 (by omega), show rec 0 (i2 + 1) = (Md.ok (i2 + 1)).seq (rec 0) from rfl, came_then camey.out]
              case measure => have := (hokH.out _ rfl).1; omega
        · have hcm2 : m1.is l wComma = false := eq_false_of_ne_true hcm
          go_wp2_with fail
          refine ((ris_val (t := ⟨#[44]⟩) f_0.sm (b := false) hcm2)).mono ?_
          rintro r W13 ⟨rfl, t_13, q_13⟩
          have f_13 := f_0.turn t_13 q_13
          clear f_0 t_13 q_13
          go_wp2_with fail
          refine (rwant_m hE f_13.sm ⟨#[41]⟩).mono ?_
          rintro r W14 ⟨rfl, t_14, q_14⟩
          have f_14 := f_13.turn t_14 q_14
          clear f_13 t_14 q_14
          obtain ⟨kE0, kE1, kE2, kE3, kE4, kE5, fE0, fE1, fE2, fE3, fE4, fE5⟩ := blk6 f_14.rot1.blk
          go_wp2_with fail
          clear kE0 kE1 kE2 kE3 kE4 kE5 fE0 fE1 fE2 fE3 fE4 fE5
          have hdp := rdeep_m f_14.sm (parts_in (num := 0) (op := 4) (name := (tkN l i).text) (ln := lnN s l i) (cl := clN s l i) f_14.head.q hyn (Fr.exs (ks := [_, _, _, _]) f_14) (by simp [I64]) ((hK i).2.2.1) (by simp [I64]) (hK i).1 (hK i).2.1) (fun n hn => hn.2) (fun hn => by have := f_14.lt P rfl; have := hn.1; omega) (fun j hj => by obtain ⟨j2, hj2⟩ := want_ok hj; exact highs (hokH.out j2 hj2).2)
          rw [show (mkEx 4 (tkN l i).text 0 (LX.es xs) (lnN s l i) (clN s l i)).val A cc = .agg #[.int .i64 4, .string (tkN l i).text, .int .i64 0, .slice A n cc, .int .i64 (lnN s l i), .int .i64 (clN s l i)] from val_es hyn] at hdp
          refine (hdp).mono ?_
          rintro r W15 ⟨rfl, t_15, q_15⟩
          have f_15 := f_14.turn t_15 q_15
          clear f_14 t_15 q_15
          clear hdp
          obtain ⟨kR0, kR1, kR2, kR3, kR4, kR5, fR0, fR1, fR2, fR3, fR4, fR5⟩ := blk6 f_15.rot2.blk
          go_wp2_with fail
          clear kR0 kR1 kR2 kR3 kR4 kR5 fR0 fR1 fR2 fR3 fR4 fR5
          have f_16 := Fr.set6 f_15.rot2 (.int .i64 4) (.string (tkN l i).text) (.int .i64 0) (.slice A n cc) (.int .i64 (lnN s l i)) (.int .i64 (clN s l i))
          clear f_15
          generalize ((((((W15.setCell ⟨R, 0, none⟩ (.int .i64 4)).setCell ⟨R, 1, none⟩ (.string (tkN l i).text)).setCell ⟨R, 2, none⟩ (.int .i64 0)).setCell ⟨R, 3, none⟩ (.slice A n cc)).setCell ⟨R, 4, none⟩ (.int .i64 (lnN s l i))).setCell ⟨R, 5, none⟩ (.int .i64 (clN s l i))) = W16 at *
          have hin := parts_in (num := 0) (op := 4) (name := (tkN l i).text) (ln := lnN s l i) (cl := clN s l i) f_16.rot1.head.q hyn (Fr.exs (ks := [_, _, _, _]) f_16) (by simp [I64]) ((hK i).2.2.1) (by simp [I64]) (hK i).1 (hK i).2.1
          have hqq : aloneN s l rec i = (m1.want s l wShut).seq fun j0 => madeN (mkEx 4 (tkN l i).text 0 (LX.es xs) (lnN s l i) (clN s l i)) j0 := by
            rw [hq.out, args_no hcm2]
          obtain ⟨hh, hG⟩ := Got.mk0 hin f_16.sm f_16.gr (by omega) (fun j hj => by have := (deep_ok hj).1; omega) (deep_came (m := (m1.want s l wShut)) hqq)
          obtain ⟨r0, r1, r2, r3, r4, r5, -⟩ := blk6 f_16.blk
          try simp only [Exit.inBlock, Exit.then]
          exact bodyPost_ret (v := .agg #[.int .i64 4, .string (tkN l i).text, .int .i64 0, .slice A n cc, .int .i64 (lnN s l i), .int .i64 (clN s l i)]) (by simp [results, Try.results45, go_sem, r0, r1, r2, r3, r4, r5]) rfl ⟨mkEx 4 (tkN l i).text 0 (LX.es xs) (lnN s l i) (clN s l i), A, cc, hh, _, by rw [val_es hyn], hG⟩
end Go.Proofs.Ytnlikhjmmnaknaa
