/-
  Texts of this claim, joined: SqC SqD.
-/
import Derived.Test.YtnlikhjmmnaknaaGU
import Derived.Deep.CutRange
import Derived.Deep.LoopGhost
import Derived.Deep.RegionLaw
/-
  The walk of the reference's Equation (printed by gen_p5.py).
-/
namespace Go.Proofs.Ytnlikhjmmnaknaa
open Go.RowKit


set_option maxHeartbeats 4000000 in
set_option maxRecDepth 100000 in
theorem req_m {s : ByteArray} {l : List Tk} {P g : Nat} (hE : Ended l) (hK : TkOk s l) (n : Nat) (hn : n ≤ 48) {w0 w : World} {m : Md} {ks : List Kp} (f : PF s l P g w0 m w ks) :
    Calls Try.prog 55 #[.pointer (some ⟨P, 0, none⟩), .int .i64 n] w fun r w' => ∃ (q : EqE) (S : Sl) (A : Option Addr) (c : Nat) (D : Nat → Prop) (m' : Md), r = .returned (.agg #[.slice S.A q.left.length S.cap, .int .i64 q.right.op, .string q.right.name, .int .i64 q.right.num, .slice A q.right.k c, .int .i64 q.right.line, .int .i64 q.right.col, .int .i64 q.line, .int .i64 q.col]) ∧ PF s l P g w0 m' w' (eqK D q S A c :: ks) ∧ m' = (eqP s l n m).2 ∧ (∀ j, m' = .ok j → q = (eqP s l n m).1) := by
  obtain ⟨is, zs, hiis, hizs, hiss, hibs, hics⟩ := info_string
  go_enter Try.func55, Try.ntmps55
  go_wp2_with fail
  have f_1 := f.alloc (.cells #[.slice none 0 0, .int .i64 0, .string ⟨#[]⟩, .int .i64 0, .slice none 0 0, .int .i64 0, .int .i64 0, .int .i64 0, .int .i64 0] 67)
  have z_1 := alloc_size w (.cells #[.slice none 0 0, .int .i64 0, .string ⟨#[]⟩, .int .i64 0, .slice none 0 0, .int .i64 0, .int .i64 0, .int .i64 0, .int .i64 0] 67)
  clear f
  generalize w.heap.size = R at *
  generalize w.alloc (.cells #[.slice none 0 0, .int .i64 0, .string ⟨#[]⟩, .int .i64 0, .slice none 0 0, .int .i64 0, .int .i64 0, .int .i64 0, .int .i64 0] 67) = W1 at *
  clear z_1
  go_upto_region 1 with fail
  obtain ⟨i0, crd, ⟨hlt_i0, hj_i0, hx1, hx2⟩, ⟨c0, c1, k0, k1, k2, k3, k4⟩, ⟨d0, d1, e0, e1, e2, e3, e4⟩⟩ := f_1.reads (.cells #[.slice none 0 0, .int .i64 0, .string ⟨#[]⟩, .int .i64 0, .slice none 0 0, .int .i64 0, .int .i64 0, .int .i64 0, .int .i64 0] 67)
  go_cut [5] from 6 to 17 (fun p wx => ∃ T1, p = .pointer (some ⟨T1, 0, none⟩) ∧ PF s l P g w0 (m) wx (blkK T1 (.cells #[.slice none 0 0, .int .i64 0, .string ⟨#[]⟩, .int .i64 0, .slice none 0 0, .int .i64 0, .int .i64 0, .int .i64 (lnN s l i0), .int .i64 (clN s l i0)] 67 (0, 0)) :: blkK R (.cells #[.slice none 0 0, .int .i64 0, .string ⟨#[]⟩, .int .i64 0, .slice none 0 0, .int .i64 0, .int .i64 0, .int .i64 0, .int .i64 0] 67 (0, 0)) :: ks))
  case first =>
    go_region
    all_goals
      go_wp2_with fail
      go_meet
      case rel => exact ⟨_, rfl, (Fr.alloc f_1 (.cells #[.slice none 0 0, .int .i64 0, .string ⟨#[]⟩, .int .i64 0, .slice none 0 0, .int .i64 0, .int .i64 0, .int .i64 (lnN s l i0), .int .i64 (clN s l i0)] 67)).drew⟩
  case rest =>
    obtain ⟨Q, rfl, f_2⟩ := hcut
    clear c0 c1 k0 k1 k2 k3 k4 d0 d1 e0 e1 e2 e3 e4 f_1
    have fs := (f_2.nilRow 9 1)
    clear f_2
    obtain ⟨L0, hL0⟩ : ∃ x, x = leftP s l n m := ⟨_, rfl⟩
    replace hL0 := hid hL0
    go_wp2_with fail
    refine (ris_m fs.sm ⟨#[40]⟩).mono ?_
    rintro r W3 ⟨rfl, t_3, q_3⟩
    have f_3 := fs.turn t_3 q_3
    clear fs t_3 q_3
    by_cases h0 : m.is l (⟨#[40]⟩ : ByteArray).data.toList = true
    · obtain ⟨i, rfl, hi⟩ := is_yes h0
      rw [h0]
      obtain rfl : i0 = i := hj_i0 i rfl
      obtain ⟨m2, hm2⟩ : ∃ x, x = if n = 48 then (Md.ok i0).err s l 3 else .ok i0 := ⟨_, rfl⟩
      replace hm2 := hid hm2
      have hLe0 : L0 = ((strsP s l 9 [] (m2.want s l wOpen)).1, (strsP s l 9 [] (m2.want s l wOpen)).2.want s l wShut) := by
        rw [hL0.out, hm2.out]
        exact if_pos h0
      have hLe := hid hLe0
      clear hLe0
      go_upto_if 21 with fail
      go_cut [21] from 22 to 25 (fun _ wx => PF s l P g w0 m2 wx (rowK w0 9 1 (.slice none 0 0) 0 (([] : List ByteArray).flatMap fun x => [.string x]) :: blkK Q (.cells #[.slice none 0 0, .int .i64 0, .string ⟨#[]⟩, .int .i64 0, .slice none 0 0, .int .i64 0, .int .i64 0, .int .i64 (lnN s l i0), .int .i64 (clN s l i0)] 67 (0, 0)) :: blkK R (.cells #[.slice none 0 0, .int .i64 0, .string ⟨#[]⟩, .int .i64 0, .slice none 0 0, .int .i64 0, .int .i64 0, .int .i64 0, .int .i64 0] 67 (0, 0)) :: ks))
      case first =>
        by_cases h4 : n = 48
        · have h4b : ((n : Int) == 48) = true := by simp [h4]
          have hm := hm2.out
          rw [if_pos h4] at hm
          clear h4 hn
          obtain ⟨kQ0, kQ1, kQ2, kQ3, kQ4, kQ5, kQ6, kQ7, kQ8, fQ0, fQ1, fQ2, fQ3, fQ4, fQ5, fQ6, fQ7, fQ8⟩ := blk9 f_3.rot1.blk
          go_wp2_with fail
          clear kQ0 kQ1 kQ2 kQ3 kQ4 kQ5 kQ6 kQ7 kQ8 fQ0 fQ1 fQ2 fQ3 fQ4 fQ5 fQ6 fQ7 fQ8 h4b
          refine (rfail_m f_3.sm (e := 3) (by decide) _ _).mono ?_
          rintro r W4 ⟨rfl, t_4, q_4⟩
          have f_4 := f_3.turn t_4 q_4
          clear f_3 t_4 q_4
          go_wp2_with fail
          go_meet
          case rel => exact hm ▸ f_4
        · have h4b : ((n : Int) == 48) = false := by simp; omega
          have hm := hm2.out
          rw [if_neg h4] at hm
          go_wp2_with fail
          clear h4b
          go_meet
          case rel => exact hm ▸ f_3
      case rest =>
        clear f_3
        have f_30 := hcut
        clear hcut
        go_wp2_with fail
        refine (rwant_m hE f_30.sm ⟨#[40]⟩).mono ?_
        rintro r W31 ⟨rfl, t_31, q_31⟩
        have f_31 := f_30.turn t_31 q_31
        clear f_30 t_31 q_31
        obtain ⟨a1, ha1⟩ : ∃ x, x = m2.want s l wOpen := ⟨_, rfl⟩
        replace ha1 := hid ha1
        rw [show m2.want s l (⟨#[40]⟩ : ByteArray).data.toList = a1 from ha1.out.symm] at f_31
        obtain ⟨m3, hm3⟩ : ∃ x, x = a1.name s l (!true) := ⟨_, rfl⟩
        replace hm3 := hid hm3
        go_upto_region 6 with fail
        go_cut [] from 28 to 34 (fun wx => ∃ (GE capE k1 : Nat), (∀ j, a1 = .ok j → k1 = j) ∧ PF s l P g w0 m3 wx (rowK w0 9 1 (.slice (some ⟨GE, 0, none⟩) (0 + 1) capE) (0 + 1) ((([] : List ByteArray) ++ [(tkN l k1).text]).flatMap fun x => [.string x]) :: blkK Q (.cells #[.slice (some ⟨GE, 0, none⟩) (0 + 1) capE, .int .i64 0, .string ⟨#[]⟩, .int .i64 0, .slice none 0 0, .int .i64 0, .int .i64 0, .int .i64 (lnN s l i0), .int .i64 (clN s l i0)] 67 (0, 0)) :: blkK R (.cells #[.slice none 0 0, .int .i64 0, .string ⟨#[]⟩, .int .i64 0, .slice none 0 0, .int .i64 0, .int .i64 0, .int .i64 0, .int .i64 0] 67 (0, 0)) :: ks))
        case first =>
          have f_s := f_31.rot2.rot2.rot2
          have hsH := hid f_s
          obtain ⟨kvQ0, kvQ1, kvQ2, kvQ3, kvQ4, kvQ5, kvQ6, kvQ7, kvQ8, fvQ0, fvQ1, fvQ2, fvQ3, fvQ4, fvQ5, fvQ6, fvQ7, fvQ8⟩ := blk9 f_s.rot1.blk
          go_region_law (first | (refine Fr.stepApp (f_r.alloc (.cells #[.string (tkN l k1).text] 9)) rfl _ _ _ rfl Try.underlying65 hiis hizs hiss hibs hics (by decide) rfl rfl rfl str_one (by decide) (by unfold maxLen; omega) (by omega) ?_; intro GE capE W_a f_a; obtain ⟨kxQ0, kxQ1, kxQ2, kxQ3, kxQ4, kxQ5, kxQ6, kxQ7, kxQ8, fxQ0, fxQ1, fxQ2, fxQ3, fxQ4, fxQ5, fxQ6, fxQ7, fxQ8⟩ := blk9 f_a.rot2.blk; have f_z := Fr.set (n := 0) f_a.rot2 (.slice (some ⟨GE, 0, none⟩) (0 + 1) capE); simp only [List.setIfInBounds_toArray, List.set_cons_zero] at f_z; have f_z := hid f_z) | (go_simp; go_at_call 46; (with_reducible refine (rname_m hE (Fr.sm (Fr.drew hsH.out)) _).mono ?_); rintro r W_r ⟨k1, hlt_k, hj_k, rfl, t_r, q_r⟩; rw [ ← hm3.out] at t_r; have f_r := Fr.turn (Fr.drew hsH.out) t_r q_r; obtain ⟨kuQ0, kuQ1, kuQ2, kuQ3, kuQ4, kuQ5, kuQ6, kuQ7, kuQ8, fuQ0, fuQ1, fuQ2, fuQ3, fuQ4, fuQ5, fuQ6, fuQ7, fuQ8⟩ := blk9 f_r.rot1.blk; obtain ⟨kwQ0, kwQ1, kwQ2, kwQ3, kwQ4, kwQ5, kwQ6, kwQ7, kwQ8, fwQ0, fwQ1, fwQ2, fwQ3, fwQ4, fwQ5, fwQ6, fwQ7, fwQ8⟩ := blk9 (f_r.alloc (.cells #[.string (tkN l k1).text] 9)).rot2.blk))
          all_goals
            go_wp2_with fail
            go_meet
            case rel =>
              refine ⟨GE, capE, k1, hj_k, ?_⟩
              have f_q := f_z.out.rot2.tail.rot1
              have hr : (([] : List ByteArray) : List ByteArray).flatMap (fun x => [Value.string x]) ++ (#[.string (tkN l k1).text] : Array Value).toList = (([] : List ByteArray) ++ [(tkN l k1).text]).flatMap fun x => [Value.string x] := by
                simp
              first | (rw [hr] at f_q; exact f_q) | exact f_q
        case rest =>
          obtain ⟨GE, capE, k1, hj_k1, f_32⟩ := hcut
          clear f_31
          obtain ⟨q0, hq0⟩ : ∃ x, x = strsP s l 9 [] a1 := ⟨_, rfl⟩
          have hq0H := hid hq0
          have hr0 : q0 = SG s l 8 [a1.text l] m3 := by
            rw [hq0, strs_SG, hm3.out]
            rfl
          have hr0H := hid hr0
          clear hr0 hq0
          have fs := f_32
          clear f_32
          simp only [List.nil_append, Nat.zero_add] at fs
          go_wp2_with fail
          go_loopg [] 8 (fun gk wr => ∃ (A : Option Addr) (nl c : Nat) (xs : List ByteArray) (g1 : List ByteArray) (m4 : Md), xs.length = nl ∧ nl + gk = 9 ∧ (∀ x ∈ xs, x.size ≤ maxLen) ∧ PF s l P g w0 m4 wr (rowK w0 9 1 (.slice A nl c) nl (xs.flatMap fun x => [.string x]) :: blkK Q (.cells #[.slice A nl c, .int .i64 0, .string ⟨#[]⟩, .int .i64 0, .slice none 0 0, .int .i64 0, .int .i64 0, .int .i64 (lnN s l i0), .int .i64 (clN s l i0)] 67 (0, 0)) :: blkK R (.cells #[.slice none 0 0, .int .i64 0, .string ⟨#[]⟩, .int .i64 0, .slice none 0 0, .int .i64 0, .int .i64 0, .int .i64 0, .int .i64 0] 67 (0, 0)) :: ks) ∧ Hid (g1.length = nl ∧ (∀ j, m4 = .ok j → nl ≤ 8 ∧ xs = g1) ∧ q0 = SG s l gk g1 m4))
          case atStart =>
            refine ⟨_, 1, _, [(tkN l k1).text], [a1.text l], m3, rfl, by omega, fun x hx => ?_, fs, hid ⟨rfl, fun j hj => ⟨by omega, ?_⟩, hr0H.out⟩⟩
            · obtain rfl : x = _ := List.mem_singleton.1 hx
              exact (hK k1).2.2.1
            · obtain ⟨j1, h1, _⟩ := name_ok (hm3.out.symm.trans hj)
              rw [h1, hj_k1 j1 h1]
              rfl
          case round =>
            clear fs hr0H hj_k1 hm3
            obtain ⟨A, nl, c, xs, g1, m4, hxn, hgk, hxs, f_40, hq⟩ := hrel
            go_wp2_with fail
            by_cases h1 : m4.is l (⟨#[44]⟩ : ByteArray).data.toList = true
            · obtain ⟨i4, rfl, hi4⟩ := is_yes h1
              obtain ⟨hgl, hgv, hqq⟩ := hq.out
              obtain ⟨hn8, rfl⟩ := hgv i4 rfl
              obtain ⟨gk, rfl⟩ : ∃ x, gk = x + 1 := ⟨gk - 1, by omega⟩
              obtain ⟨a2, ha2⟩ : ∃ x, x = (Md.ok i4).take l wComma := ⟨_, rfl⟩
              replace ha2 := hid ha2
              have hqx : q0 = strsP s l (gk + 1) xs a2 := by rw [hqq, ha2.out]; exact if_pos h1
              have hqxH := hid hqx
              clear hqx hqq hgv hq hgl
              refine (rtake_m hE f_40.sm ⟨#[44]⟩).mono ?_
              rintro r W41 ⟨rfl, t_41, q_41⟩
              have f_41 := f_40.turn t_41 q_41
              clear f_40 t_41 q_41
              rw [h1]
              rw [show (Md.ok i4).take l (⟨#[44]⟩ : ByteArray).data.toList = a2 from ha2.out.symm] at f_41
              have hnd : (!decide ((nl : Int) < 8)) = decide (8 ≤ xs.length) := by
                rw [hxn, ← decide_not]
                exact decide_eq_decide.2 (by omega)
              have hnd2 : (!decide (nl < 8)) = decide (8 ≤ xs.length) := by
                rw [hxn, ← decide_not]
                exact decide_eq_decide.2 (by omega)
              obtain ⟨m5, hm5⟩ : ∃ x, x = a2.name s l (decide (8 ≤ xs.length)) := ⟨_, rfl⟩
              replace hm5 := hid hm5
              go_upto_region 8 with fail
              have f_s := f_41.rot2.rot2.rot2
              have hsH := hid f_s
              obtain ⟨kvQ0, kvQ1, kvQ2, kvQ3, kvQ4, kvQ5, kvQ6, kvQ7, kvQ8, fvQ0, fvQ1, fvQ2, fvQ3, fvQ4, fvQ5, fvQ6, fvQ7, fvQ8⟩ := blk9 f_s.rot1.blk
              go_region_law (first | (refine Fr.stepApp (f_r.alloc (.cells #[.string (tkN l k2).text] 9)) rfl _ _ _ rfl Try.underlying65 hiis hizs hiss hibs hics (by decide) rfl rfl rfl str_one (by decide) (by unfold maxLen; omega) (by omega) ?_; intro GE capE W_a f_a; obtain ⟨kxQ0, kxQ1, kxQ2, kxQ3, kxQ4, kxQ5, kxQ6, kxQ7, kxQ8, fxQ0, fxQ1, fxQ2, fxQ3, fxQ4, fxQ5, fxQ6, fxQ7, fxQ8⟩ := blk9 f_a.rot2.blk; have f_z := Fr.set (n := 0) f_a.rot2 (.slice (some ⟨GE, 0, none⟩) (nl + 1) capE); simp only [List.setIfInBounds_toArray, List.set_cons_zero] at f_z; have f_z := hid f_z) | (go_simp; go_at_call 46; (with_reducible refine (rname_m hE (Fr.sm (Fr.drew hsH.out)) _).mono ?_); rintro r W_r ⟨k2, hlt_k, hj_k, rfl, t_r, q_r⟩; rw [show (!_) = decide (8 ≤ xs.length) from by first | exact hnd | exact hnd2,  ← hm5.out] at t_r; have f_r := Fr.turn (Fr.drew hsH.out) t_r q_r; obtain ⟨kuQ0, kuQ1, kuQ2, kuQ3, kuQ4, kuQ5, kuQ6, kuQ7, kuQ8, fuQ0, fuQ1, fuQ2, fuQ3, fuQ4, fuQ5, fuQ6, fuQ7, fuQ8⟩ := blk9 f_r.rot1.blk; obtain ⟨kwQ0, kwQ1, kwQ2, kwQ3, kwQ4, kwQ5, kwQ6, kwQ7, kwQ8, fwQ0, fwQ1, fwQ2, fwQ3, fwQ4, fwQ5, fwQ6, fwQ7, fwQ8⟩ := blk9 (f_r.alloc (.cells #[.string (tkN l k2).text] 9)).rot2.blk))
              all_goals
                go_wp2_with fail
                have f_q := f_z.out.rot2.tail.rot1
                have hr : (xs : List ByteArray).flatMap (fun x => [Value.string x]) ++ (#[.string (tkN l k2).text] : Array Value).toList = (xs ++ [(tkN l k2).text]).flatMap fun x => [Value.string x] := by
                  simp
                rw [hr] at f_q
                clear hr hsH f_z f_41 kvQ0 kvQ1 kvQ2 kvQ3 kvQ4 kvQ5 kvQ6 kvQ7 kvQ8 fvQ0 fvQ1 fvQ2 fvQ3 fvQ4 fvQ5 fvQ6 fvQ7 fvQ8 kuQ0 kuQ1 kuQ2 kuQ3 kuQ4 kuQ5 kuQ6 kuQ7 kuQ8 fuQ0 fuQ1 fuQ2 fuQ3 fuQ4 fuQ5 fuQ6 fuQ7 fuQ8 kwQ0 kwQ1 kwQ2 kwQ3 kwQ4 kwQ5 kwQ6 kwQ7 kwQ8 fwQ0 fwQ1 fwQ2 fwQ3 fwQ4 fwQ5 fwQ6 fwQ7 fwQ8 kxQ0 kxQ1 kxQ2 kxQ3 kxQ4 kxQ5 kxQ6 kxQ7 kxQ8 fxQ0 fxQ1 fxQ2 fxQ3 fxQ4 fxQ5 fxQ6 fxQ7 fxQ8
                have hj_k2 := hj_k
                go_wp2_with fail
                go_roundg gk
                case measure => omega
                case rel =>
                  refine ⟨_, nl + 1, _, _, xs ++ [a2.text l], m5, by simp [hxn], by omega, fun x hx => ?_, f_q, hid ⟨by simp [hxn], fun j hj => ?_, by rw [hqxH.out, strs_SG, hm5.out]⟩⟩
                  · rcases List.mem_append.1 hx with hx | hx
                    · exact hxs x hx
                    · obtain rfl : x = _ := List.mem_singleton.1 hx
                      exact (hK k2).2.2.1
                  · obtain ⟨j1, rfl, _⟩ := name_ok (hm5.out.symm.trans hj)
                    have hful := name_full (hm5.out.symm.trans hj)
                    rw [hxn] at hful
                    obtain rfl := hj_k2 j1 rfl
                    exact ⟨by simp at hful; omega, rfl⟩
            · have h1 := eq_false_of_ne_true h1
              have hqx : q0 = (g1, m4) := by rw [hq.out.2.2]; exact if_neg (by rw [show m4.is l wComma = false from h1]; simp)
              refine (rtake_m hE f_40.sm ⟨#[44]⟩).mono ?_
              rintro r W41 ⟨rfl, t_41, q_41⟩
              have f_41 := f_40.turn t_41 q_41
              clear f_40 t_41 q_41
              rw [h1]
              rw [take_not h1] at f_41
              go_wp2_with fail
              refine (rwant_m hE f_41.sm ⟨#[41]⟩).mono ?_
              rintro r W42 ⟨rfl, t_42, q_42⟩
              have f_42 := f_41.turn t_42 q_42
              clear f_41 t_42 q_42
              obtain ⟨m6, hm6⟩ : ∃ x, x = m4.want s l wShut := ⟨_, rfl⟩
              replace hm6 := hid hm6
              rw [show m4.want s l (⟨#[41]⟩ : ByteArray).data.toList = m6 from hm6.out.symm] at f_42
              have hlf : m6 = L0.2 := by rw [hLe.out, ← ha1.out, ← hq0H.out, hqx, hm6.out]
              have hlv5 : ∀ j, m6 = .ok j → xs = L0.1 := fun j hj => by
                obtain ⟨j4, h4⟩ := want_ok (hm6.out.symm.trans hj)
                rw [hLe.out, ← ha1.out, ← hq0H.out, hqx]
                exact (hq.out.2.1 j4 h4).2
              replace hlf := hid hlf
              replace hlv5 := hid hlv5
              clear hqx hq hLe hq0H
              go_wp2_with fail
              refine (rwant_m hE f_42.sm ⟨#[61]⟩).mono ?_
              rintro r W43 ⟨rfl, t_43, q_43⟩
              have f_43 := f_42.turn t_43 q_43
              clear f_42 t_43 q_43
              obtain ⟨a5, ha5⟩ : ∃ x, x = m6.want s l wEq := ⟨_, rfl⟩
              replace ha5 := hid ha5
              rw [show m6.want s l (⟨#[61]⟩ : ByteArray).data.toList = a5 from ha5.out.symm] at f_43
              go_wp2_with fail
              refine (rexpr_m hE hK f_43.sm).mono ?_
              rintro r W44 ⟨ex, Ax, cx, tx, mx, rfl, Gx⟩
              obtain ⟨Dx, f_44⟩ := f_43.expr Gx
              obtain ⟨lowx, topx, okx, camex⟩ := Gx.facts
              clear f_43 Gx
              simp only [Ex.val_eq]
              have hce := came_ex camex.out
              have hceH := hid hce
              clear hce camex
              obtain ⟨kQ0, kQ1, kQ2, kQ3, kQ4, kQ5, kQ6, kQ7, kQ8, fQ0, fQ1, fQ2, fQ3, fQ4, fQ5, fQ6, fQ7, fQ8⟩ := blk9 f_44.rot2.blk
              go_wp2_with fail
              clear kQ0 kQ1 kQ2 kQ3 kQ4 kQ5 kQ6 kQ7 kQ8 fQ0 fQ1 fQ2 fQ3 fQ4 fQ5 fQ6 fQ7 fQ8
              have f_45 := Fr.set (n := 1) f_44.rot2 (.int .i64 ex.op)
              simp only [List.setIfInBounds_toArray, List.set_cons_zero, List.set_cons_succ] at f_45
              clear f_44
              generalize W44.setCell ⟨Q, 1, none⟩ (.int .i64 ex.op) = W45 at *
              have f_46 := Fr.set (n := 2) f_45 (.string ex.name)
              simp only [List.setIfInBounds_toArray, List.set_cons_zero, List.set_cons_succ] at f_46
              clear f_45
              generalize W45.setCell ⟨Q, 2, none⟩ (.string ex.name) = W46 at *
              have f_47 := Fr.set (n := 3) f_46 (.int .i64 ex.num)
              simp only [List.setIfInBounds_toArray, List.set_cons_zero, List.set_cons_succ] at f_47
              clear f_46
              generalize W46.setCell ⟨Q, 3, none⟩ (.int .i64 ex.num) = W47 at *
              have f_48 := Fr.set (n := 4) f_47 (.slice Ax ex.k cx)
              simp only [List.setIfInBounds_toArray, List.set_cons_zero, List.set_cons_succ] at f_48
              clear f_47
              generalize W47.setCell ⟨Q, 4, none⟩ (.slice Ax ex.k cx) = W48 at *
              have f_49 := Fr.set (n := 5) f_48 (.int .i64 ex.line)
              simp only [List.setIfInBounds_toArray, List.set_cons_zero, List.set_cons_succ] at f_49
              clear f_48
              generalize W48.setCell ⟨Q, 5, none⟩ (.int .i64 ex.line) = W49 at *
              have f_50 := Fr.set (n := 6) f_49 (.int .i64 ex.col)
              simp only [List.setIfInBounds_toArray, List.set_cons_zero, List.set_cons_succ] at f_50
              clear f_49
              generalize W49.setCell ⟨Q, 6, none⟩ (.int .i64 ex.col) = W50 at *
              refine (rwant_m hE f_50.sm ⟨#[59]⟩).mono ?_
              rintro r W51 ⟨rfl, t_51, q_51⟩
              have f_51 := f_50.turn t_51 q_51
              clear f_50 t_51 q_51
              obtain ⟨kQ0, kQ1, kQ2, kQ3, kQ4, kQ5, kQ6, kQ7, kQ8, fQ0, fQ1, fQ2, fQ3, fQ4, fQ5, fQ6, fQ7, fQ8⟩ := blk9 f_51.blk
              obtain ⟨kR0, kR1, kR2, kR3, kR4, kR5, kR6, kR7, kR8, fR0, fR1, fR2, fR3, fR4, fR5, fR6, fR7, fR8⟩ := blk9 f_51.rot3.blk
              go_wp2_with fail
              clear kQ0 kQ1 kQ2 kQ3 kQ4 kQ5 kQ6 kQ7 kQ8 fQ0 fQ1 fQ2 fQ3 fQ4 fQ5 fQ6 fQ7 fQ8 kR0 kR1 kR2 kR3 kR4 kR5 kR6 kR7 kR8 fR0 fR1 fR2 fR3 fR4 fR5 fR6 fR7 fR8
              have f_52 := Fr.set9 f_51.rot3 (.slice A nl c) (.int .i64 ex.op) (.string ex.name) (.int .i64 ex.num) (.slice Ax ex.k cx) (.int .i64 ex.line) (.int .i64 ex.col) (.int .i64 (lnN s l i0)) (.int .i64 (clN s l i0))
              clear f_51
              generalize (((((((((W51.setCell ⟨R, 0, none⟩ (.slice A nl c)).setCell ⟨R, 1, none⟩ (.int .i64 ex.op)).setCell ⟨R, 2, none⟩ (.string ex.name)).setCell ⟨R, 3, none⟩ (.int .i64 ex.num)).setCell ⟨R, 4, none⟩ (.slice Ax ex.k cx)).setCell ⟨R, 5, none⟩ (.int .i64 ex.line)).setCell ⟨R, 6, none⟩ (.int .i64 ex.col)).setCell ⟨R, 7, none⟩ (.int .i64 (lnN s l i0))).setCell ⟨R, 8, none⟩ (.int .i64 (clN s l i0))) = W52 at *
              have fin := f_52.rot1.rot1.rot2.rot3
              obtain ⟨Ds, fin1⟩ := fin.srow hxn hxs
              obtain ⟨D3, fin2⟩ := fin1.eqFold (hK i0).1 (hK i0).2.1
              have fin3 := fin2.rot1.tail.rot1.tail
              have hp : eqP s l n (Md.ok i0) = (⟨L0.1, (exP s l (L0.2.want s l wEq)).1, (Md.ok i0).ln s l, (Md.ok i0).cl s l⟩, (exP s l (L0.2.want s l wEq)).2.want s l wSemi) := by
                rw [hL0.out]
                rfl
              rw [← hlf.out, ← ha5.out, ← hceH.out.1] at hp
              have hp1 : ∀ j, mx.want s l wSemi = .ok j → (⟨xs, ex, lnN s l i0, clN s l i0⟩ : EqE) = (eqP s l n (Md.ok i0)).1 := fun j hj => by
                obtain ⟨j1, h1⟩ := want_ok hj
                have h2 := hceH.out.2 j1 h1
                obtain ⟨j3, h3⟩ := ex_ok (hceH.out.1.symm.trans h1)
                obtain ⟨j4, h4⟩ := want_ok (ha5.out.symm.trans h3)
                have h5 := hlv5.out j4 h4
                have h6 : (leftP s l n (Md.ok i0)).2 = .ok j4 := by rw [← hL0.out, ← hlf.out]; exact h4
                rw [hp]
                show _ = EqE.mk _ _ _ _
                rw [h5, h2]
                rfl
              have hqn : (xs).length = nl := hxn
              obtain ⟨r0, r1, r2, r3, r4, r5, r6, r7, r8, -⟩ := blk9 f_52.blk
              try simp only [Exit.inBlock, Exit.then]
              refine bodyPost_ret (v := .agg #[.slice A nl c, .int .i64 ex.op, .string ex.name, .int .i64 ex.num, .slice Ax ex.k cx, .int .i64 ex.line, .int .i64 ex.col, .int .i64 (lnN s l i0), .int .i64 (clN s l i0)]) (by simp [results, Try.results55, go_sem, r0, r1, r2, r3, r4, r5, r6, r7, r8]) rfl ⟨⟨xs, ex, lnN s l i0, clN s l i0⟩, ⟨A, c⟩, Ax, cx, D3, _, ?_, fin3, by rw [hp]; rfl, hp1⟩
              rw [hqn]
    · have h0 := eq_false_of_ne_true h0
      rw [h0]
      have hLe : L0 = ([m.text l], m.name s l (decide (48 ≤ n))) := by rw [hL0.out]; exact if_neg (by rw [show m.is l wOpen = false from h0]; simp)
      replace hLe := hid hLe
      have hnd : (!decide ((n : Int) < 48)) = decide (48 ≤ n) := by
        rw [← decide_not]
        exact decide_eq_decide.2 (by omega)
      have hnd2 : (!decide (n < 48)) = decide (48 ≤ n) := by
        rw [← decide_not]
        exact decide_eq_decide.2 (by omega)
      obtain ⟨m3, hm3⟩ : ∃ x, x = m.name s l (decide (48 ≤ n)) := ⟨_, rfl⟩
      replace hm3 := hid hm3
      go_upto_region 10 with fail
      go_cut [] from 50 to 58 (fun wx => ∃ (GE capE k1 : Nat), (∀ j, m = .ok j → k1 = j) ∧ PF s l P g w0 m3 wx (rowK w0 9 1 (.slice (some ⟨GE, 0, none⟩) (0 + 1) capE) (0 + 1) ((([] : List ByteArray) ++ [(tkN l k1).text]).flatMap fun x => [.string x]) :: blkK Q (.cells #[.slice (some ⟨GE, 0, none⟩) (0 + 1) capE, .int .i64 0, .string ⟨#[]⟩, .int .i64 0, .slice none 0 0, .int .i64 0, .int .i64 0, .int .i64 (lnN s l i0), .int .i64 (clN s l i0)] 67 (0, 0)) :: blkK R (.cells #[.slice none 0 0, .int .i64 0, .string ⟨#[]⟩, .int .i64 0, .slice none 0 0, .int .i64 0, .int .i64 0, .int .i64 0, .int .i64 0] 67 (0, 0)) :: ks))
      case first =>
        have f_s := f_3.rot2.rot2.rot2
        have hsH := hid f_s
        obtain ⟨kvQ0, kvQ1, kvQ2, kvQ3, kvQ4, kvQ5, kvQ6, kvQ7, kvQ8, fvQ0, fvQ1, fvQ2, fvQ3, fvQ4, fvQ5, fvQ6, fvQ7, fvQ8⟩ := blk9 f_s.rot1.blk
        go_region_law (first | (refine Fr.stepApp (f_r.alloc (.cells #[.string (tkN l k1).text] 9)) rfl _ _ _ rfl Try.underlying65 hiis hizs hiss hibs hics (by decide) rfl rfl rfl str_one (by decide) (by unfold maxLen; omega) (by omega) ?_; intro GE capE W_a f_a; obtain ⟨kxQ0, kxQ1, kxQ2, kxQ3, kxQ4, kxQ5, kxQ6, kxQ7, kxQ8, fxQ0, fxQ1, fxQ2, fxQ3, fxQ4, fxQ5, fxQ6, fxQ7, fxQ8⟩ := blk9 f_a.rot2.blk; have f_z := Fr.set (n := 0) f_a.rot2 (.slice (some ⟨GE, 0, none⟩) (0 + 1) capE); simp only [List.setIfInBounds_toArray, List.set_cons_zero] at f_z; have f_z := hid f_z) | (go_simp; go_at_call 46; (with_reducible refine (rname_m hE (Fr.sm (Fr.drew hsH.out)) _).mono ?_); rintro r W_r ⟨k1, hlt_k, hj_k, rfl, t_r, q_r⟩; rw [show (!_) = decide (48 ≤ n) from by first | exact hnd | exact hnd2,  ← hm3.out] at t_r; have f_r := Fr.turn (Fr.drew hsH.out) t_r q_r; obtain ⟨kuQ0, kuQ1, kuQ2, kuQ3, kuQ4, kuQ5, kuQ6, kuQ7, kuQ8, fuQ0, fuQ1, fuQ2, fuQ3, fuQ4, fuQ5, fuQ6, fuQ7, fuQ8⟩ := blk9 f_r.rot1.blk; obtain ⟨kwQ0, kwQ1, kwQ2, kwQ3, kwQ4, kwQ5, kwQ6, kwQ7, kwQ8, fwQ0, fwQ1, fwQ2, fwQ3, fwQ4, fwQ5, fwQ6, fwQ7, fwQ8⟩ := blk9 (f_r.alloc (.cells #[.string (tkN l k1).text] 9)).rot2.blk))
        all_goals
          go_wp2_with fail
          go_meet
          case rel =>
            refine ⟨GE, capE, k1, hj_k, ?_⟩
            have f_q := f_z.out.rot2.tail.rot1
            have hr : (([] : List ByteArray) : List ByteArray).flatMap (fun x => [Value.string x]) ++ (#[.string (tkN l k1).text] : Array Value).toList = (([] : List ByteArray) ++ [(tkN l k1).text]).flatMap fun x => [Value.string x] := by
              simp
            first | (rw [hr] at f_q; exact f_q) | exact f_q
      case rest =>
        obtain ⟨GE, capE, k1, hj_k1, f_4⟩ := hcut
        clear f_3
        simp only [List.nil_append, Nat.zero_add] at f_4
        have hlf : m3 = L0.2 := by rw [hLe.out, hm3.out]
        have hlv5 : ∀ j, m3 = .ok j → [(tkN l k1).text] = L0.1 := fun j hj => by
          obtain ⟨j1, h1, _⟩ := name_ok (hm3.out.symm.trans hj)
          rw [hLe.out, h1, hj_k1 j1 h1]
          rfl
        replace hlf := hid hlf
        replace hlv5 := hid hlv5
        clear hLe hnd hnd2
        go_wp2_with fail
        refine (rwant_m hE f_4.sm ⟨#[61]⟩).mono ?_
        rintro r W5 ⟨rfl, t_5, q_5⟩
        have f_5 := f_4.turn t_5 q_5
        clear f_4 t_5 q_5
        obtain ⟨a5, ha5⟩ : ∃ x, x = m3.want s l wEq := ⟨_, rfl⟩
        replace ha5 := hid ha5
        rw [show m3.want s l (⟨#[61]⟩ : ByteArray).data.toList = a5 from ha5.out.symm] at f_5
        go_wp2_with fail
        refine (rexpr_m hE hK f_5.sm).mono ?_
        rintro r W6 ⟨ex, Ax, cx, tx, mx, rfl, Gx⟩
        obtain ⟨Dx, f_6⟩ := f_5.expr Gx
        obtain ⟨lowx, topx, okx, camex⟩ := Gx.facts
        clear f_5 Gx
        simp only [Ex.val_eq]
        have hce := came_ex camex.out
        have hceH := hid hce
        clear hce camex
        obtain ⟨kQ0, kQ1, kQ2, kQ3, kQ4, kQ5, kQ6, kQ7, kQ8, fQ0, fQ1, fQ2, fQ3, fQ4, fQ5, fQ6, fQ7, fQ8⟩ := blk9 f_6.rot2.blk
        go_wp2_with fail
        clear kQ0 kQ1 kQ2 kQ3 kQ4 kQ5 kQ6 kQ7 kQ8 fQ0 fQ1 fQ2 fQ3 fQ4 fQ5 fQ6 fQ7 fQ8
        have f_7 := Fr.set (n := 1) f_6.rot2 (.int .i64 ex.op)
        simp only [List.setIfInBounds_toArray, List.set_cons_zero, List.set_cons_succ] at f_7
        clear f_6
        generalize W6.setCell ⟨Q, 1, none⟩ (.int .i64 ex.op) = W7 at *
        have f_8 := Fr.set (n := 2) f_7 (.string ex.name)
        simp only [List.setIfInBounds_toArray, List.set_cons_zero, List.set_cons_succ] at f_8
        clear f_7
        generalize W7.setCell ⟨Q, 2, none⟩ (.string ex.name) = W8 at *
        have f_9 := Fr.set (n := 3) f_8 (.int .i64 ex.num)
        simp only [List.setIfInBounds_toArray, List.set_cons_zero, List.set_cons_succ] at f_9
        clear f_8
        generalize W8.setCell ⟨Q, 3, none⟩ (.int .i64 ex.num) = W9 at *
        have f_10 := Fr.set (n := 4) f_9 (.slice Ax ex.k cx)
        simp only [List.setIfInBounds_toArray, List.set_cons_zero, List.set_cons_succ] at f_10
        clear f_9
        generalize W9.setCell ⟨Q, 4, none⟩ (.slice Ax ex.k cx) = W10 at *
        have f_11 := Fr.set (n := 5) f_10 (.int .i64 ex.line)
        simp only [List.setIfInBounds_toArray, List.set_cons_zero, List.set_cons_succ] at f_11
        clear f_10
        generalize W10.setCell ⟨Q, 5, none⟩ (.int .i64 ex.line) = W11 at *
        have f_12 := Fr.set (n := 6) f_11 (.int .i64 ex.col)
        simp only [List.setIfInBounds_toArray, List.set_cons_zero, List.set_cons_succ] at f_12
        clear f_11
        generalize W11.setCell ⟨Q, 6, none⟩ (.int .i64 ex.col) = W12 at *
        refine (rwant_m hE f_12.sm ⟨#[59]⟩).mono ?_
        rintro r W13 ⟨rfl, t_13, q_13⟩
        have f_13 := f_12.turn t_13 q_13
        clear f_12 t_13 q_13
        obtain ⟨kQ0, kQ1, kQ2, kQ3, kQ4, kQ5, kQ6, kQ7, kQ8, fQ0, fQ1, fQ2, fQ3, fQ4, fQ5, fQ6, fQ7, fQ8⟩ := blk9 f_13.blk
        obtain ⟨kR0, kR1, kR2, kR3, kR4, kR5, kR6, kR7, kR8, fR0, fR1, fR2, fR3, fR4, fR5, fR6, fR7, fR8⟩ := blk9 f_13.rot3.blk
        go_wp2_with fail
        clear kQ0 kQ1 kQ2 kQ3 kQ4 kQ5 kQ6 kQ7 kQ8 fQ0 fQ1 fQ2 fQ3 fQ4 fQ5 fQ6 fQ7 fQ8 kR0 kR1 kR2 kR3 kR4 kR5 kR6 kR7 kR8 fR0 fR1 fR2 fR3 fR4 fR5 fR6 fR7 fR8
        have f_14 := Fr.set9 f_13.rot3 (.slice (some ⟨GE, 0, none⟩) 1 capE) (.int .i64 ex.op) (.string ex.name) (.int .i64 ex.num) (.slice Ax ex.k cx) (.int .i64 ex.line) (.int .i64 ex.col) (.int .i64 (lnN s l i0)) (.int .i64 (clN s l i0))
        clear f_13
        generalize (((((((((W13.setCell ⟨R, 0, none⟩ (.slice (some ⟨GE, 0, none⟩) 1 capE)).setCell ⟨R, 1, none⟩ (.int .i64 ex.op)).setCell ⟨R, 2, none⟩ (.string ex.name)).setCell ⟨R, 3, none⟩ (.int .i64 ex.num)).setCell ⟨R, 4, none⟩ (.slice Ax ex.k cx)).setCell ⟨R, 5, none⟩ (.int .i64 ex.line)).setCell ⟨R, 6, none⟩ (.int .i64 ex.col)).setCell ⟨R, 7, none⟩ (.int .i64 (lnN s l i0))).setCell ⟨R, 8, none⟩ (.int .i64 (clN s l i0))) = W14 at *
        have fin := f_14.rot1.rot1.rot2.rot3
        obtain ⟨Ds, fin1⟩ := fin.srow rfl (fun x hx => by obtain rfl : x = _ := List.mem_singleton.1 hx; exact (hK k1).2.2.1)
        obtain ⟨D3, fin2⟩ := fin1.eqFold (hK i0).1 (hK i0).2.1
        have fin3 := fin2.rot1.tail.rot1.tail
        have hp : eqP s l n m = (⟨L0.1, (exP s l (L0.2.want s l wEq)).1, m.ln s l, m.cl s l⟩, (exP s l (L0.2.want s l wEq)).2.want s l wSemi) := by
          rw [hL0.out]
          rfl
        rw [← hlf.out, ← ha5.out, ← hceH.out.1] at hp
        have hp1 : ∀ j, mx.want s l wSemi = .ok j → (⟨[(tkN l k1).text], ex, lnN s l i0, clN s l i0⟩ : EqE) = (eqP s l n m).1 := fun j hj => by
          obtain ⟨j1, h1⟩ := want_ok hj
          have h2 := hceH.out.2 j1 h1
          obtain ⟨j3, h3⟩ := ex_ok (hceH.out.1.symm.trans h1)
          obtain ⟨j4, h4⟩ := want_ok (ha5.out.symm.trans h3)
          have h5 := hlv5.out j4 h4
          have h6 : (leftP s l n m).2 = .ok j4 := by rw [← hL0.out, ← hlf.out]; exact h4
          obtain ⟨⟨j6, rfl⟩, -⟩ := left_ok h6
          obtain rfl := hj_i0 j6 rfl
          rw [hp]
          show _ = EqE.mk _ _ _ _
          rw [h5, h2]
          rfl
        have hqn : ([(tkN l k1).text]).length = 1 := rfl
        obtain ⟨r0, r1, r2, r3, r4, r5, r6, r7, r8, -⟩ := blk9 f_14.blk
        try simp only [Exit.inBlock, Exit.then]
        refine bodyPost_ret (v := .agg #[.slice (some ⟨GE, 0, none⟩) 1 capE, .int .i64 ex.op, .string ex.name, .int .i64 ex.num, .slice Ax ex.k cx, .int .i64 ex.line, .int .i64 ex.col, .int .i64 (lnN s l i0), .int .i64 (clN s l i0)]) (by simp [results, Try.results55, go_sem, r0, r1, r2, r3, r4, r5, r6, r7, r8]) rfl ⟨⟨[(tkN l k1).text], ex, lnN s l i0, clN s l i0⟩, ⟨(some ⟨GE, 0, none⟩), capE⟩, Ax, cx, D3, _, ?_, fin3, by rw [hp]; rfl, hp1⟩
        rw [hqn]
end Go.Proofs.Ytnlikhjmmnaknaa
/-
  The walk of the reference's Node (printed by gen_p5.py).
-/
namespace Go.Proofs.Ytnlikhjmmnaknaa
open Go.RowKit

theorem req_0 {s : ByteArray} {l : List Tk} {P g : Nat} (hE : Ended l) (hK : TkOk s l) {w0 w : World} {m : Md} {ks : List Kp} (f : PF s l P g w0 m w ks) :
    Calls Try.prog 55 #[.pointer (some ⟨P, 0, none⟩), .int .i64 0] w fun r w' => ∃ (q : EqE) (S : Sl) (A : Option Addr) (c : Nat) (D : Nat → Prop) (m' : Md), r = .returned (.agg #[.slice S.A q.left.length S.cap, .int .i64 q.right.op, .string q.right.name, .int .i64 q.right.num, .slice A q.right.k c, .int .i64 q.right.line, .int .i64 q.right.col, .int .i64 q.line, .int .i64 q.col]) ∧ PF s l P g w0 m' w' (eqK D q S A c :: ks) ∧ m' = (eqP s l 0 m).2 ∧ (∀ j, m' = .ok j → q = (eqP s l 0 m).1) := req_m hE hK 0 (by omega) f

set_option maxHeartbeats 4000000 in
set_option maxRecDepth 100000 in
theorem rnode_m {s : ByteArray} {l : List Tk} {P g : Nat} (hE : Ended l) (hK : TkOk s l) {w0 w : World} {m : Md} {ks : List Kp} (f : PF s l P g w0 m w ks) :
    Calls Try.prog 25 #[.pointer (some ⟨P, 0, none⟩)] w fun r w' => ∃ (n : NodeE) (S : NSl) (D : Nat → Prop) (m' : Md), r = .returned (.agg #[.string n.name, .slice S.i.A n.ins.length S.i.cap, .slice S.o.A n.outs.length S.o.cap, .slice S.v.A n.vars.length S.v.cap, .slice S.e.A n.eqs.length S.e.cap, .int .i64 n.line, .int .i64 n.col]) ∧ PF s l P g w0 m' w' (nodeK D n S :: ks) ∧ m' = (nodeP s l m).2 ∧ (∀ j, m' = .ok j → n = (nodeP s l m).1) := by
  obtain ⟨iq, zq, hiiq, hizq, hisq, hibq, hicq⟩ := info_Equation
  go_enter Try.func25, Try.ntmps25
  go_wp2_with fail
  have f_1 := f.alloc (.cells #[.string ⟨#[]⟩, .slice none 0 0, .slice none 0 0, .slice none 0 0, .slice none 0 0, .int .i64 0, .int .i64 0] 62)
  have z_1 := alloc_size w (.cells #[.string ⟨#[]⟩, .slice none 0 0, .slice none 0 0, .slice none 0 0, .slice none 0 0, .int .i64 0, .int .i64 0] 62)
  clear f
  generalize w.heap.size = R at *
  generalize w.alloc (.cells #[.string ⟨#[]⟩, .slice none 0 0, .slice none 0 0, .slice none 0 0, .slice none 0 0, .int .i64 0, .int .i64 0] 62) = W1 at *
  clear z_1
  refine (rwant_m hE f_1.sm ⟨#[110, 111, 100, 101]⟩).mono ?_
  rintro r W2 ⟨rfl, t_2, q_2⟩
  have f_2 := f_1.turn t_2 q_2
  clear f_1 t_2 q_2
  obtain ⟨a1, ha1⟩ : ∃ x, x = m.want s l wNode := ⟨_, rfl⟩
  replace ha1 := hid ha1
  rw [show m.want s l (⟨#[110, 111, 100, 101]⟩ : ByteArray).data.toList = a1 from ha1.out.symm] at f_2
  go_upto_region 2 with fail
  obtain ⟨i0, crd, ⟨hlt_i0, hj_i0, hx1, hx2⟩, ⟨c0, c1, k0, k1, k2, k3, k4⟩, ⟨d0, d1, e0, e1, e2, e3, e4⟩⟩ := f_2.reads (.cells #[.string ⟨#[]⟩, .slice none 0 0, .slice none 0 0, .slice none 0 0, .slice none 0 0, .int .i64 0, .int .i64 0] 62)
  go_cut [3] from 6 to 17 (fun p wx => ∃ T1, p = .pointer (some ⟨T1, 0, none⟩) ∧ PF s l P g w0 (a1) wx (blkK T1 (.cells #[.string ⟨#[]⟩, .slice none 0 0, .slice none 0 0, .slice none 0 0, .slice none 0 0, .int .i64 (lnN s l i0), .int .i64 (clN s l i0)] 62 (0, 0)) :: blkK R (.cells #[.string ⟨#[]⟩, .slice none 0 0, .slice none 0 0, .slice none 0 0, .slice none 0 0, .int .i64 0, .int .i64 0] 62 (0, 0)) :: ks))
  case first =>
    go_region
    all_goals
      go_wp2_with fail
      go_meet
      case rel => exact ⟨_, rfl, (Fr.alloc f_2 (.cells #[.string ⟨#[]⟩, .slice none 0 0, .slice none 0 0, .slice none 0 0, .slice none 0 0, .int .i64 (lnN s l i0), .int .i64 (clN s l i0)] 62)).drew⟩
  case rest =>
    obtain ⟨N, rfl, f_3⟩ := hcut
    clear c0 c1 k0 k1 k2 k3 k4 d0 d1 e0 e1 e2 e3 e4 f_2
    go_wp2_with fail
    refine (rname_m hE f_3.sm true).mono ?_
    rintro r W4 ⟨k, hlt_k, hj_k, rfl, t_4, q_4⟩
    have f_4 := f_3.turn t_4 q_4
    clear f_3 t_4 q_4
    obtain ⟨a2, ha2⟩ : ∃ x, x = a1.name s l false := ⟨_, rfl⟩
    replace ha2 := hid ha2
    rw [show a1.name s l (!true) = a2 from ha2.out.symm] at f_4
    have hj_kH := hid hj_k
    have hj_iH := hid hj_i0
    clear hj_k hj_i0 hx1 hx2
    obtain ⟨kN0, kN1, kN2, kN3, kN4, kN5, kN6, fN0, fN1, fN2, fN3, fN4, fN5, fN6⟩ := blk7 f_4.blk
    go_wp2_with fail
    clear kN0 kN1 kN2 kN3 kN4 kN5 kN6 fN0 fN1 fN2 fN3 fN4 fN5 fN6
    have f_5 := Fr.set (n := 0) f_4 (.string (tkN l k).text)
    simp only [List.setIfInBounds_toArray, List.set_cons_zero] at f_5
    clear f_4
    generalize W4.setCell ⟨N, 0, none⟩ (.string (tkN l k).text) = W5 at *
    refine (rports_m hE hK f_5).mono ?_
    rintro r W6 ⟨A1, n1, c1, vs1, D1, a3, rfl, hn1, f_6, ha3, hv1⟩
    clear f_5
    replace ha3 := hid ha3
    replace hv1 := hid hv1
    obtain ⟨kN0, kN1, kN2, kN3, kN4, kN5, kN6, fN0, fN1, fN2, fN3, fN4, fN5, fN6⟩ := blk7 f_6.rot1.blk
    go_wp2_with fail
    clear kN0 kN1 kN2 kN3 kN4 kN5 kN6 fN0 fN1 fN2 fN3 fN4 fN5 fN6
    have f_7 := Fr.set (n := 1) f_6.rot1 (.slice A1 n1 c1)
    simp only [List.setIfInBounds_toArray, List.set_cons_zero, List.set_cons_succ] at f_7
    clear f_6
    generalize W6.setCell ⟨N, 1, none⟩ (.slice A1 n1 c1) = W7 at *
    refine (rwant_m hE f_7.sm ⟨#[114, 101, 116, 117, 114, 110, 115]⟩).mono ?_
    rintro r W8 ⟨rfl, t_8, q_8⟩
    have f_8 := f_7.turn t_8 q_8
    clear f_7 t_8 q_8
    obtain ⟨a4, ha4⟩ : ∃ x, x = a3.want s l wRet := ⟨_, rfl⟩
    replace ha4 := hid ha4
    rw [show a3.want s l (⟨#[114, 101, 116, 117, 114, 110, 115]⟩ : ByteArray).data.toList = a4 from ha4.out.symm] at f_8
    go_wp2_with fail
    refine (rports_m hE hK f_8).mono ?_
    rintro r W9 ⟨A2, n2, c2, vs2, D2, a5, rfl, hn2, f_9, ha5, hv2⟩
    clear f_8
    replace ha5 := hid ha5
    replace hv2 := hid hv2
    obtain ⟨kN0, kN1, kN2, kN3, kN4, kN5, kN6, fN0, fN1, fN2, fN3, fN4, fN5, fN6⟩ := blk7 f_9.rot1.blk
    go_wp2_with fail
    clear kN0 kN1 kN2 kN3 kN4 kN5 kN6 fN0 fN1 fN2 fN3 fN4 fN5 fN6
    have f_10 := Fr.set (n := 2) f_9.rot1 (.slice A2 n2 c2)
    simp only [List.setIfInBounds_toArray, List.set_cons_zero, List.set_cons_succ] at f_10
    clear f_9
    generalize W9.setCell ⟨N, 2, none⟩ (.slice A2 n2 c2) = W10 at *
    refine (rwant_m hE f_10.sm ⟨#[59]⟩).mono ?_
    rintro r W11 ⟨rfl, t_11, q_11⟩
    have f_11 := f_10.turn t_11 q_11
    clear f_10 t_11 q_11
    obtain ⟨a6, ha6⟩ : ∃ x, x = a5.want s l wSemi := ⟨_, rfl⟩
    replace ha6 := hid ha6
    rw [show a5.want s l (⟨#[59]⟩ : ByteArray).data.toList = a6 from ha6.out.symm] at f_11
    go_wp2_with fail
    refine (rtake_m hE f_11.sm ⟨#[118, 97, 114]⟩).mono ?_
    rintro r W12 ⟨rfl, t_12, q_12⟩
    have f_12 := f_11.turn t_12 q_12
    clear f_11 t_12 q_12
    obtain ⟨L0, hL0⟩ : ∃ x, x = localsP s l a6 := ⟨_, rfl⟩
    replace hL0 := hid hL0
    have fs := f_12.rot3.rot3.rot3.rot3
    clear f_12
    obtain ⟨bv, hbv⟩ : ∃ x, x = a6.is l wVar := ⟨_, rfl⟩
    replace hbv := hid hbv.symm
    rw [show a6.is l (⟨#[118, 97, 114]⟩ : ByteArray).data.toList = bv from hbv.out]
    go_upto_if 32 with fail
    go_cut [32] from 33 to 56 (fun _ wx => ∃ (A3 : Option Addr) (n3 c3 : Nat) (vs3 : List VarE) (D3 : Nat → Prop) (a7 : Md), vs3.length = n3 ∧ PF s l P g w0 a7 wx (blkK N (.cells #[.string (tkN l k).text, .slice A1 n1 c1, .slice A2 n2 c2, .slice A3 n3 c3, .slice none 0 0, .int .i64 (lnN s l i0), .int .i64 (clN s l i0)] 62 (0, 0)) :: vrowK D3 ⟨A3, c3⟩ vs3 :: vrowK D2 ⟨A2, c2⟩ vs2 :: vrowK D1 ⟨A1, c1⟩ vs1 :: blkK R (.cells #[.string ⟨#[]⟩, .slice none 0 0, .slice none 0 0, .slice none 0 0, .slice none 0 0, .int .i64 0, .int .i64 0] 62 (0, 0)) :: ks) ∧ Hid (a7 = L0.2) ∧ Hid (∀ j, a7 = .ok j → vs3 = L0.1))
    case first =>
      cases bv with
      | false =>
        have hL1 := hid (show L0 = ([], a6) from by rw [hL0.out]; exact if_neg (by rw [hbv.out]; simp))
        rw [take_not (show a6.is l (⟨#[118, 97, 114]⟩ : ByteArray).data.toList = false from hbv.out)] at fs
        go_wp2_with fail
        go_meet
        case rel => exact ⟨none, 0, 0, [], _, a6, rfl, (fs.noVrow).rot1, hid (by rw [hL1.out]), fun _ _ => by rw [hL1.out]⟩
      | true =>
        obtain ⟨b0, hb0⟩ : ∃ x, x = a6.take l wVar := ⟨_, rfl⟩
        replace hb0 := hid hb0
        rw [show a6.take l (⟨#[118, 97, 114]⟩ : ByteArray).data.toList = b0 from hb0.out.symm] at fs
        obtain ⟨q1, hq1⟩ : ∃ x, x = localsGo s l 41 [] b0 := ⟨_, rfl⟩
        have hq1H := hid hq1
        have hL1 := hid (show L0 = q1 from by rw [hL0.out, hq1, hb0.out]; exact if_pos hbv.out)
        have fv := Fr.noVars fs
        clear hq1 fs
        obtain ⟨kN0, kN1, kN2, kN3, kN4, kN5, kN6, fN0, fN1, fN2, fN3, fN4, fN5, fN6⟩ := blk7 fv.rot2.blk
        go_wp2_with fail
        clear kN0 kN1 kN2 kN3 kN4 kN5 kN6 fN0 fN1 fN2 fN3 fN4 fN5 fN6
        refine (rgroup_m hE hK 40 (by omega) (n := 0) (xs := []) rfl (by omega) fv).mono ?_
        rintro r W13 ⟨Ag, ng, cg, zs, Dg, m2, rfl, hzn, hz50, f_13, hm2, hv2g⟩
        clear fv
        obtain ⟨kN0, kN1, kN2, kN3, kN4, kN5, kN6, fN0, fN1, fN2, fN3, fN4, fN5, fN6⟩ := blk7 f_13.rot2.blk
        go_wp2_with fail
        clear kN0 kN1 kN2 kN3 kN4 kN5 kN6 fN0 fN1 fN2 fN3 fN4 fN5 fN6
        have f_14 := Fr.set (n := 3) f_13.rot2 (.slice Ag ng cg)
        simp only [List.setIfInBounds_toArray, List.set_cons_zero, List.set_cons_succ] at f_14
        clear f_13
        generalize W13.setCell ⟨N, 3, none⟩ (.slice Ag ng cg) = W14 at *
        refine (rwant_m hE f_14.sm ⟨#[59]⟩).mono ?_
        rintro r W15 ⟨rfl, t_15, q_15⟩
        have f_15 := f_14.turn t_15 q_15
        clear f_14 t_15 q_15
        obtain ⟨m3, hm3⟩ : ∃ x, x = m2.want s l wSemi := ⟨_, rfl⟩
        replace hm3 := hid hm3
        rw [show m2.want s l (⟨#[59]⟩ : ByteArray).data.toList = m3 from hm3.out.symm] at f_15
        have hr0 : (m3.isBad = false → ng ≤ 40 ∧ 41 ≤ ng + 40 ∧ zs.map (·.v) = (groupP s l 40 [] b0).1) ∧ q1 = LG s l 40 (groupP s l 40 [] b0).1 m3 := by
          refine ⟨fun hb => ?_, by rw [hq1H.out, locals_LG, hm3.out, show m2 = _ from hm2]; rfl⟩
          obtain ⟨j, hj⟩ := not_bad hb
          obtain ⟨j2, hj2⟩ := want_ok (hm3.out.symm.trans hj)
          have h1 := group_ok (s := s) (l := l) (most := 40) (xs := ([] : List VarE)) (m := b0) (by simp) (hm2.symm.trans hj2)
          have h2 := hv2g j2 hj2
          have h3 : (groupP s l 40 [] b0).1.length = ng := by rw [← hzn, ← List.length_map (f := fun x : LVar => x.v), h2]; try rfl
          simp only [List.length_nil] at h1
          exact ⟨by omega, by omega, h2⟩
        have hr0H := hid hr0
        clear hr0
        clear hm2 hv2g
        go_wp2_with fail
        have f_z0 := f_15.rot5.rot5.rot5.rot3.rot5.rot5
        go_loopg [] 40 (fun gk wr => ∃ (Ag : Option Addr) (ng cg : Nat) (zs : List LVar) (Dg : Nat → Prop) (m1 : Md) (g1 : List VarE), zs.length = ng ∧ ng ≤ 50 ∧ PF s l P g w0 m1 wr (rowK w0 96 5 (.slice Ag ng cg) ng (zs.flatMap LVar.cells) :: varsK Dg zs :: blkK N (.cells #[.string (tkN l k).text, .slice A1 n1 c1, .slice A2 n2 c2, .slice Ag ng cg, .slice none 0 0, .int .i64 (lnN s l i0), .int .i64 (clN s l i0)] 62 (0, 0)) :: vrowK D2 ⟨A2, c2⟩ vs2 :: vrowK D1 ⟨A1, c1⟩ vs1 :: blkK R (.cells #[.string ⟨#[]⟩, .slice none 0 0, .slice none 0 0, .slice none 0 0, .slice none 0 0, .int .i64 0, .int .i64 0] 62 (0, 0)) :: ks) ∧ Hid ((m1.isBad = false → ng ≤ 40 ∧ 41 ≤ ng + gk ∧ zs.map (·.v) = g1) ∧ q1 = LG s l gk g1 m1))
        case atStart => exact ⟨Ag, ng, cg, zs, Dg, m3, _, hzn, hz50, f_z0, hr0H⟩
        case round =>
          clear f_z0 f_15 hr0H hm3 hzn hz50
          obtain ⟨Ag, ng, cg, xs, Dg, m1, g1, hxn, hx50, f_90, hq⟩ := hrel
          obtain ⟨er, x0, x1, x2⟩ := f_90.err
          by_cases hb : m1.isBad = true
          · have x3 : (er == 0) = false := by rw [x2, hb]; rfl
            clear x1 x2
            have hqz : q1 = (g1, m1) := by rw [hq.out.2]; exact if_pos (.inl hb)
            have hqzH := hid hqz
            clear hqz
            go_wp2_with fail
            obtain ⟨Dv, fin2⟩ := Fr.vrow f_90 hxn
            go_meet
            case rel => exact ⟨Ag, ng, cg, _, Dv, m1, by simpa using hxn, fin2.rot1, hid (by rw [hL1.out, hqzH.out]), fun j hj => by rw [hL1.out, hqzH.out]; rw [hj] at hb; cases hb⟩
          · have hb := eq_false_of_ne_true hb
            have x3 : (er == 0) = true := by rw [x2, hb]; rfl
            obtain ⟨i, rfl⟩ := not_bad hb
            clear x1 x2
            go_wp2_with fail
            refine (ris_m f_90.sm ⟨#[108, 101, 116]⟩).mono ?_
            rintro r W91 ⟨rfl, t_91, q_91⟩
            have f_91 := f_90.turn t_91 q_91
            clear f_90 t_91 q_91
            by_cases h1 : (Md.ok i).is l (⟨#[108, 101, 116]⟩ : ByteArray).data.toList = true
            · rw [h1]
              clear x0 x3
              have hqz : q1 = (g1, (Md.ok i)) := by rw [hq.out.2]; exact if_pos (.inr h1)
              have hqzH := hid hqz
              clear hqz
              go_wp2_with fail
              obtain ⟨Dv, fin2⟩ := Fr.vrow f_91 hxn
              go_meet
              case rel => exact ⟨Ag, ng, cg, _, Dv, (Md.ok i), by simpa using hxn, fin2.rot1, hid (by rw [hL1.out, hqzH.out]), fun j hj => by rw [hL1.out, hqzH.out]; exact (hq.out.1 hb).2.2⟩
            · have h1 := eq_false_of_ne_true h1
              rw [h1]
              obtain ⟨hn40, hgk, hg1⟩ := hq.out.1 hb
              obtain ⟨gk, rfl⟩ : ∃ x, gk = x + 1 := ⟨gk - 1, by omega⟩
              have hqx : q1 = localsGo s l (gk + 1) (xs.map (·.v)) (.ok i) := by
                rw [hq.out.2, hg1]
                exact if_neg (by rw [hb, show (Md.ok i).is l wLet = false from h1]; simp)
              have hqxH := hid hqx
              clear hqx hq x0 x3 hg1
              obtain ⟨kN0, kN1, kN2, kN3, kN4, kN5, kN6, fN0, fN1, fN2, fN3, fN4, fN5, fN6⟩ := blk7 f_91.rot2.blk
              go_wp2_with fail
              clear kN0 kN1 kN2 kN3 kN4 kN5 kN6 fN0 fN1 fN2 fN3 fN4 fN5 fN6
              refine (rgroup_m hE hK 40 (by omega) hxn hn40 f_91).mono ?_
              rintro r W92 ⟨Ah, nh, ch, zs, Dh, m2, rfl, hzn, hz50, f_92, hm2, hv2g⟩
              clear f_91
              obtain ⟨kN0, kN1, kN2, kN3, kN4, kN5, kN6, fN0, fN1, fN2, fN3, fN4, fN5, fN6⟩ := blk7 f_92.rot2.blk
              go_wp2_with fail
              clear kN0 kN1 kN2 kN3 kN4 kN5 kN6 fN0 fN1 fN2 fN3 fN4 fN5 fN6
              have f_93 := Fr.set (n := 3) f_92.rot2 (.slice Ah nh ch)
              simp only [List.setIfInBounds_toArray, List.set_cons_zero, List.set_cons_succ] at f_93
              clear f_92
              generalize W92.setCell ⟨N, 3, none⟩ (.slice Ah nh ch) = W93 at *
              refine (rwant_m hE f_93.sm ⟨#[59]⟩).mono ?_
              rintro r W94 ⟨rfl, t_94, q_94⟩
              have f_94 := f_93.turn t_94 q_94
              clear f_93 t_94 q_94
              obtain ⟨m3, hm3⟩ : ∃ x, x = m2.want s l wSemi := ⟨_, rfl⟩
              replace hm3 := hid hm3
              rw [show m2.want s l (⟨#[59]⟩ : ByteArray).data.toList = m3 from hm3.out.symm] at f_94
              have hr0 : (m3.isBad = false → nh ≤ 40 ∧ 41 ≤ nh + gk ∧ zs.map (·.v) = (groupP s l 40 (xs.map (·.v)) (.ok i)).1) ∧ q1 = LG s l gk (groupP s l 40 (xs.map (·.v)) (.ok i)).1 m3 := by
                refine ⟨fun hb => ?_, by rw [hqxH.out, locals_LG, hm3.out, show m2 = _ from hm2]⟩
                obtain ⟨j, hj⟩ := not_bad hb
                obtain ⟨j2, hj2⟩ := want_ok (hm3.out.symm.trans hj)
                have h1 := group_ok (s := s) (l := l) (most := 40) (xs := xs.map (·.v)) (m := .ok i) (by simpa [hxn] using hn40) (hm2.symm.trans hj2)
                have h2 := hv2g j2 hj2
                have h3 : (groupP s l 40 (xs.map (·.v)) (.ok i)).1.length = nh := by rw [← hzn, ← List.length_map (f := fun x : LVar => x.v), h2]; try rfl
                simp only [List.length_map] at h1
                exact ⟨by omega, by omega, h2⟩
              have hr0H := hid hr0
              clear hr0
              clear hm2 hv2g
              go_wp2_with fail
              have f_z1 := f_94.rot5.rot5.rot5.rot3.rot5.rot5
              go_roundg gk
              case measure => omega
              case rel => exact ⟨Ah, nh, ch, zs, Dh, m3, _, hzn, hz50, f_z1, hr0H⟩
    case rest =>
      clear fs
      obtain ⟨A3, n3, c3, vs3, D3, a7, hn3, f_70, ha7, hv3⟩ := hcut
      go_wp2_with fail
      refine (rwant_m hE f_70.sm ⟨#[108, 101, 116]⟩).mono ?_
      rintro r W71 ⟨rfl, t_71, q_71⟩
      have f_71 := f_70.turn t_71 q_71
      clear f_70 t_71 q_71
      obtain ⟨a8, ha8⟩ : ∃ x, x = a7.want s l wLet := ⟨_, rfl⟩
      replace ha8 := hid ha8
      rw [show a7.want s l (⟨#[108, 101, 116]⟩ : ByteArray).data.toList = a8 from ha8.out.symm] at f_71
      go_wp2_with fail
      obtain ⟨q0, hq0⟩ : ∃ q0, q0 = eqsGo s l 49 [] a8 := ⟨_, rfl⟩
      have hq0H := hid hq0
      have hnp : nodeP s l m = (⟨a1.text l, (portsP s l a2).1, (portsP s l a4).1, L0.1, q0.1, a1.ln s l, a1.cl s l⟩, q0.2) := by
        rw [hq0, ha8.out, ha7.out, hL0.out, ha6.out, ha5.out, ha4.out, ha3.out, ha2.out, ha1.out]
        rfl
      have hnd : ∀ j, q0.2 = .ok j → (⟨(tkN l k).text, vs1, vs2, vs3, q0.1, lnN s l i0, clN s l i0⟩ : NodeE) = (nodeP s l m).1 := fun j hj => by
        rw [hq0] at hj
        obtain ⟨j8, h8⟩ := eqs_go 49 [] (by simp) (by simp) hj
        obtain ⟨j7, h7⟩ := want_ok (ha8.out.symm.trans h8)
        have e3 := hv3.out j7 h7
        have h7b := ha7.out.symm.trans h7
        rw [hL0.out] at h7b
        obtain ⟨j6, h6⟩ := locals_ok h7b
        obtain ⟨j5, h5⟩ := want_ok (ha6.out.symm.trans h6)
        have e2 := hv2.out j5 h5
        obtain ⟨j4, h4⟩ := ports_ok (ha5.out.symm.trans h5)
        obtain ⟨j3, h3⟩ := want_ok (ha4.out.symm.trans h4)
        have e1 := hv1.out j3 h3
        obtain ⟨j2, h2⟩ := ports_ok (ha3.out.symm.trans h3)
        obtain ⟨j1, h1, _⟩ := name_ok (ha2.out.symm.trans h2)
        have ek := hj_kH.out j1 h1
        have ei := hj_iH.out j1 h1
        rw [hnp, e1, e2, e3, h1, ek, ei]
        rfl
      have hnpH := hid (show (nodeP s l m).2 = q0.2 by rw [hnp])
      have hndH := hid hnd
      clear hnp hnd hv1 hv2 hv3 ha1 ha2 ha3 ha4 ha5 ha6 ha7 ha8 hj_kH hlt_k hj_iH hL0
      have f_80 := f_71.rot4.rot4.rot4.rot4.rot4
      have fs := f_80.noEqs
      clear f_80 f_71
      go_upto_region 15 with fail
      go_cut [] from 59 to 65 (fun wx => ∃ (GE capE : Nat) (q : EqE) (Sq : Sl) (Aq : Option Addr) (cq : Nat) (Dq : Nat → Prop) (m9 : Md), PF s l P g w0 m9 wx (rowK w0 67 9 (.slice (some ⟨GE, 0, none⟩) (0 + 1) capE) (0 + 1) ((([] : List LEq) ++ [LEq.mk q Sq Aq cq]).flatMap LEq.cells) :: eqsK (fun n => (fun _ => False) n ∨ Dq n) (([] : List LEq) ++ [LEq.mk q Sq Aq cq]) :: blkK N (.cells #[.string (tkN l k).text, .slice A1 n1 c1, .slice A2 n2 c2, .slice A3 n3 c3, .slice (some ⟨GE, 0, none⟩) (0 + 1) capE, .int .i64 (lnN s l i0), .int .i64 (clN s l i0)] 62 (0, 0)) :: vrowK D3 ⟨A3, c3⟩ vs3 :: vrowK D2 ⟨A2, c2⟩ vs2 :: vrowK D1 ⟨A1, c1⟩ vs1 :: blkK R (.cells #[.string ⟨#[]⟩, .slice none 0 0, .slice none 0 0, .slice none 0 0, .slice none 0 0, .int .i64 0, .int .i64 0] 62 (0, 0)) :: ks) ∧ Hid (m9 = (eqP s l 0 a8).2) ∧ Hid (∀ j, m9 = .ok j → q = (eqP s l 0 a8).1))
      case first =>
        have f_s := fs.rot6.rot6.rot6.rot6.rot6.rot6.rot6
        have hsH := hid f_s
        obtain ⟨kvN0, kvN1, kvN2, kvN3, kvN4, kvN5, kvN6, fvN0, fvN1, fvN2, fvN3, fvN4, fvN5, fvN6⟩ := blk7 f_s.rot2.blk
        go_region_law (first | (refine Fr.stepApp ((f_r.alloc (.cells #[.slice Sq.A q.left.length Sq.cap, .int .i64 q.right.op, .string q.right.name, .int .i64 q.right.num, .slice Aq q.right.k cq, .int .i64 q.right.line, .int .i64 q.right.col, .int .i64 q.line, .int .i64 q.col] 67)).rot2.rot1) rfl _ _ _ rfl Try.underlying60 hiiq hizq hisq hibq hicq (by decide) rfl rfl rfl eq_one (by decide) (by unfold maxLen; omega) (by omega) ?_; intro GE capE W_a f_a; obtain ⟨kxN0, kxN1, kxN2, kxN3, kxN4, kxN5, kxN6, fxN0, fxN1, fxN2, fxN3, fxN4, fxN5, fxN6⟩ := blk7 f_a.rot4.blk; have f_z := Fr.set (n := 4) f_a.rot4 (.slice (some ⟨GE, 0, none⟩) (0 + 1) capE); simp only [List.setIfInBounds_toArray, List.set_cons_zero, List.set_cons_succ] at f_z; have f_z := hid f_z) | (go_simp; go_at_call 55; (with_reducible refine (req_0 hE hK (Fr.drew hsH.out)).mono ?_); rintro r W_r ⟨q, Sq, Aq, cq, Dq, m9, rfl, f_r, hm9, hv9⟩; obtain ⟨kuN0, kuN1, kuN2, kuN3, kuN4, kuN5, kuN6, fuN0, fuN1, fuN2, fuN3, fuN4, fuN5, fuN6⟩ := blk7 f_r.rot3.blk; obtain ⟨kwN0, kwN1, kwN2, kwN3, kwN4, kwN5, kwN6, fwN0, fwN1, fwN2, fwN3, fwN4, fwN5, fwN6⟩ := blk7 (f_r.alloc (.cells #[.slice Sq.A q.left.length Sq.cap, .int .i64 q.right.op, .string q.right.name, .int .i64 q.right.num, .slice Aq q.right.k cq, .int .i64 q.right.line, .int .i64 q.right.col, .int .i64 q.line, .int .i64 q.col] 67)).rot4.blk; replace hm9 := hid hm9; replace hv9 := hid hv9))
        all_goals
          go_wp2_with fail
          go_meet
          case rel =>
            have f_q := f_z.out.rot2.tail.rot3.rot3.rot1
            have hr : (([] : List LEq) : List LEq).flatMap LEq.cells ++ (#[.slice Sq.A q.left.length Sq.cap, .int .i64 q.right.op, .string q.right.name, .int .i64 q.right.num, .slice Aq q.right.k cq, .int .i64 q.right.line, .int .i64 q.right.col, .int .i64 q.line, .int .i64 q.col] : Array Value).toList = (([] : List LEq) ++ [LEq.mk q Sq Aq cq]).flatMap LEq.cells := by
              simp [LEq.cells, Sl.v]
            first | rw [hr] at f_q | skip
            have f_y := (f_q.fuse (x := eqsK (fun n => (fun _ => False) n ∨ Dq n) (([] : List LEq) ++ [LEq.mk q Sq Aq cq])) (fun _ h => h) (eqs_push f_q.head.q f_q.tail.head.q) (eqsK_ok _ _)).rot2
            exact ⟨GE, capE, q, Sq, Aq, cq, Dq, m9, f_y, hm9, hv9⟩
      case rest =>
        obtain ⟨GE, capE, q, Sq, Aq, cq, Dq, m9, f_72, hm9, hv9⟩ := hcut
        clear fs
        have hr0 : q0 = EG s l 48 [(eqP s l 0 a8).1] m9 := by rw [hq0, eqs_EG, hm9.out]; rfl
        have hr0H := hid hr0
        clear hr0 hq0
        simp only [List.nil_append, Nat.zero_add] at f_72
        go_wp2_with fail
        go_loopg [] 48 (fun gk wr => ∃ (A : Option Addr) (n c : Nat) (qs : List LEq) (D : Nat → Prop) (m1 : Md) (g1 : List EqE), n + gk = 49 ∧ qs.length = n ∧ PF s l P g w0 m1 wr (rowK w0 67 9 (.slice A n c) n (qs.flatMap LEq.cells) :: eqsK D qs :: blkK N (.cells #[.string (tkN l k).text, .slice A1 n1 c1, .slice A2 n2 c2, .slice A3 n3 c3, .slice A n c, .int .i64 (lnN s l i0), .int .i64 (clN s l i0)] 62 (0, 0)) :: vrowK D3 ⟨A3, c3⟩ vs3 :: vrowK D2 ⟨A2, c2⟩ vs2 :: vrowK D1 ⟨A1, c1⟩ vs1 :: blkK R (.cells #[.string ⟨#[]⟩, .slice none 0 0, .slice none 0 0, .slice none 0 0, .slice none 0 0, .int .i64 0, .int .i64 0] 62 (0, 0)) :: ks) ∧ Hid (g1.length = n ∧ (∀ j, m1 = .ok j → n ≤ 48 ∧ qs.map (·.q) = g1) ∧ q0 = EG s l gk g1 m1))
        case atStart => exact ⟨_, 1, _, [LEq.mk q Sq Aq cq], _, m9, [(eqP s l 0 a8).1], rfl, rfl, f_72, hid ⟨rfl, fun j hj => ⟨by omega, by rw [← hv9.out j hj]; rfl⟩, hr0H.out⟩⟩
        case round =>
          clear f_72 hr0H hm9 hv9
          obtain ⟨A, n, c, qs, D, m1, g1, hgk, hqn, f_90, hq⟩ := hrel
          obtain ⟨er, x0, x1, x2⟩ := f_90.err
          by_cases hb : m1.isBad = true
          · have x3 : (er == 0) = false := by rw [x2, hb]; rfl
            clear x1 x2
            have hqz : q0 = (g1, m1.take l wTel) := by rw [hq.out.2.2]; exact if_pos (.inl hb)
            have hw : m1.want s l wTel = m1.take l wTel := ((bad_keep hb).2.1 _).trans ((bad_keep (s := s) hb).1 _).symm
            have hgv := hid hq.out.2.1
            have hqzH := hid hqz
            have hwH := hid hw
            clear hqz hw hq
            go_wp2_with fail
            refine (rwant_m hE f_90.sm ⟨#[116, 101, 108]⟩).mono ?_
            rintro r W91 ⟨rfl, t_91, q_91⟩
            have f_91 := f_90.turn t_91 q_91
            clear f_90 t_91 q_91
            rw [show m1.want s l (⟨#[116, 101, 108]⟩ : ByteArray).data.toList = m1.take l wTel from hwH.out] at f_91
            obtain ⟨kN0, kN1, kN2, kN3, kN4, kN5, kN6, fN0, fN1, fN2, fN3, fN4, fN5, fN6⟩ := blk7 f_91.rot2.blk
            obtain ⟨kR0, kR1, kR2, kR3, kR4, kR5, kR6, fR0, fR1, fR2, fR3, fR4, fR5, fR6⟩ := blk7 f_91.rot6.blk
            go_wp2_with fail
            clear kN0 kN1 kN2 kN3 kN4 kN5 kN6 fN0 fN1 fN2 fN3 fN4 fN5 fN6 kR0 kR1 kR2 kR3 kR4 kR5 kR6 fR0 fR1 fR2 fR3 fR4 fR5 fR6
            have f_92 := Fr.set7 f_91.rot6 (.string (tkN l k).text) (.slice A1 n1 c1) (.slice A2 n2 c2) (.slice A3 n3 c3) (.slice A n c) (.int .i64 (lnN s l i0)) (.int .i64 (clN s l i0))
            clear f_91
            generalize (((((((W91.setCell ⟨R, 0, none⟩ (.string (tkN l k).text)).setCell ⟨R, 1, none⟩ (.slice A1 n1 c1)).setCell ⟨R, 2, none⟩ (.slice A2 n2 c2)).setCell ⟨R, 3, none⟩ (.slice A3 n3 c3)).setCell ⟨R, 4, none⟩ (.slice A n c)).setCell ⟨R, 5, none⟩ (.int .i64 (lnN s l i0))).setCell ⟨R, 6, none⟩ (.int .i64 (clN s l i0))) = W92 at *
            have fin := f_92.rot3.rot1.rot6.rot6.rot6.rot6.rot6
            obtain ⟨De, fin2⟩ := fin.erow hqn
            obtain ⟨Dn, fin3⟩ := Fr.nodeFold (fin2.rot1.rot2.rot3) (name := (tkN l k).text) (hK k).2.2.1 (hK i0).1 (hK i0).2.1
            have fin4 := fin3.rot1.tail.rot1.tail
            have hqm : qs.length = (qs.map (fun x : LEq => x.q)).length := by simp
            obtain ⟨r0, r1, r2, r3, r4, r5, r6, -⟩ := blk7 f_92.blk
            try simp only [Exit.inBlock, Exit.then]
            refine bodyPost_ret (v := .agg #[.string (tkN l k).text, .slice A1 n1 c1, .slice A2 n2 c2, .slice A3 n3 c3, .slice A n c, .int .i64 (lnN s l i0), .int .i64 (clN s l i0)]) (by simp [results, Try.results25, go_sem, r0, r1, r2, r3, r4, r5, r6]) rfl ⟨⟨(tkN l k).text, vs1, vs2, vs3, qs.map (fun x : LEq => x.q), lnN s l i0, clN s l i0⟩, ⟨⟨A1, c1⟩, ⟨A2, c2⟩, ⟨A3, c3⟩, ⟨A, c⟩⟩, Dn, m1.take l wTel, ?_, fin4, (by rw [hnpH.out, hqzH.out]), (fun j hj => by obtain ⟨j9, h9⟩ := take_ok hj; rw [← hndH.out j (by rw [hqzH.out]; exact hj), hqzH.out, (hgv.out j9 h9).2])⟩
            rw [hn1, hn2, hn3, ← hqm, hqn]
          · have hb := eq_false_of_ne_true hb
            have x3 : (er == 0) = true := by rw [x2, hb]; rfl
            obtain ⟨i, rfl⟩ := not_bad hb
            clear x1 x2
            go_wp2_with fail
            refine (ris_m f_90.sm ⟨#[116, 101, 108]⟩).mono ?_
            rintro r W91 ⟨rfl, t_91, q_91⟩
            have f_91 := f_90.turn t_91 q_91
            clear f_90 t_91 q_91
            by_cases h1 : (Md.ok i).is l (⟨#[116, 101, 108]⟩ : ByteArray).data.toList = true
            · rw [h1]
              clear x0 x3 hb
              generalize hm1 : Md.ok i = m1 at *
              have hqz : q0 = (g1, m1.take l wTel) := by rw [hq.out.2.2]; exact if_pos (.inr h1)
              have hw : m1.want s l wTel = m1.take l wTel := want_take h1
              have hgv := hid hq.out.2.1
              have hqzH := hid hqz
              have hwH := hid hw
              clear hqz hw hq
              go_wp2_with fail
              refine (rwant_m hE f_91.sm ⟨#[116, 101, 108]⟩).mono ?_
              rintro r W92 ⟨rfl, t_92, q_92⟩
              have f_92 := f_91.turn t_92 q_92
              clear f_91 t_92 q_92
              rw [show m1.want s l (⟨#[116, 101, 108]⟩ : ByteArray).data.toList = m1.take l wTel from hwH.out] at f_92
              obtain ⟨kN0, kN1, kN2, kN3, kN4, kN5, kN6, fN0, fN1, fN2, fN3, fN4, fN5, fN6⟩ := blk7 f_92.rot2.blk
              obtain ⟨kR0, kR1, kR2, kR3, kR4, kR5, kR6, fR0, fR1, fR2, fR3, fR4, fR5, fR6⟩ := blk7 f_92.rot6.blk
              go_wp2_with fail
              clear kN0 kN1 kN2 kN3 kN4 kN5 kN6 fN0 fN1 fN2 fN3 fN4 fN5 fN6 kR0 kR1 kR2 kR3 kR4 kR5 kR6 fR0 fR1 fR2 fR3 fR4 fR5 fR6
              have f_93 := Fr.set7 f_92.rot6 (.string (tkN l k).text) (.slice A1 n1 c1) (.slice A2 n2 c2) (.slice A3 n3 c3) (.slice A n c) (.int .i64 (lnN s l i0)) (.int .i64 (clN s l i0))
              clear f_92
              generalize (((((((W92.setCell ⟨R, 0, none⟩ (.string (tkN l k).text)).setCell ⟨R, 1, none⟩ (.slice A1 n1 c1)).setCell ⟨R, 2, none⟩ (.slice A2 n2 c2)).setCell ⟨R, 3, none⟩ (.slice A3 n3 c3)).setCell ⟨R, 4, none⟩ (.slice A n c)).setCell ⟨R, 5, none⟩ (.int .i64 (lnN s l i0))).setCell ⟨R, 6, none⟩ (.int .i64 (clN s l i0))) = W93 at *
              have fin := f_93.rot3.rot1.rot6.rot6.rot6.rot6.rot6
              obtain ⟨De, fin2⟩ := fin.erow hqn
              obtain ⟨Dn, fin3⟩ := Fr.nodeFold (fin2.rot1.rot2.rot3) (name := (tkN l k).text) (hK k).2.2.1 (hK i0).1 (hK i0).2.1
              have fin4 := fin3.rot1.tail.rot1.tail
              have hqm : qs.length = (qs.map (fun x : LEq => x.q)).length := by simp
              obtain ⟨r0, r1, r2, r3, r4, r5, r6, -⟩ := blk7 f_93.blk
              try simp only [Exit.inBlock, Exit.then]
              refine bodyPost_ret (v := .agg #[.string (tkN l k).text, .slice A1 n1 c1, .slice A2 n2 c2, .slice A3 n3 c3, .slice A n c, .int .i64 (lnN s l i0), .int .i64 (clN s l i0)]) (by simp [results, Try.results25, go_sem, r0, r1, r2, r3, r4, r5, r6]) rfl ⟨⟨(tkN l k).text, vs1, vs2, vs3, qs.map (fun x : LEq => x.q), lnN s l i0, clN s l i0⟩, ⟨⟨A1, c1⟩, ⟨A2, c2⟩, ⟨A3, c3⟩, ⟨A, c⟩⟩, Dn, m1.take l wTel, ?_, fin4, (by rw [hnpH.out, hqzH.out]), (fun j hj => by obtain ⟨j9, h9⟩ := take_ok hj; rw [← hndH.out j (by rw [hqzH.out]; exact hj), hqzH.out, (hgv.out j9 h9).2])⟩
              rw [hn1, hn2, hn3, ← hqm, hqn]
            · have h1 := eq_false_of_ne_true h1
              rw [h1]
              obtain ⟨hgl, hgv, hqq⟩ := hq.out
              obtain ⟨hn48, hg1⟩ := hgv i rfl
              obtain ⟨gk, rfl⟩ : ∃ x, gk = x + 1 := ⟨gk - 1, by omega⟩
              have hqx : q0 = EG s l gk (g1 ++ [(eqP s l n (.ok i)).1]) (eqP s l n (.ok i)).2 := by
                rw [hqq, ← hgl, ← eqs_EG]
                exact if_neg (by rw [hb, show (Md.ok i).is l wTel = false from h1]; simp)
              have hqxH := hid hqx
              clear hqx hqq hq hgv x0 x3
              go_upto_region 17 with fail
              have f_s := f_91.rot6.rot6.rot6.rot6.rot6.rot6.rot6
              have hsH := hid f_s
              obtain ⟨kvN0, kvN1, kvN2, kvN3, kvN4, kvN5, kvN6, fvN0, fvN1, fvN2, fvN3, fvN4, fvN5, fvN6⟩ := blk7 f_s.rot2.blk
              go_region_law (first | (refine Fr.stepApp ((f_r.alloc (.cells #[.slice Sq.A q.left.length Sq.cap, .int .i64 q.right.op, .string q.right.name, .int .i64 q.right.num, .slice Aq q.right.k cq, .int .i64 q.right.line, .int .i64 q.right.col, .int .i64 q.line, .int .i64 q.col] 67)).rot2.rot1) rfl _ _ _ rfl Try.underlying60 hiiq hizq hisq hibq hicq (by decide) rfl rfl rfl eq_one (by decide) (by unfold maxLen; omega) (by omega) ?_; intro GE capE W_a f_a; obtain ⟨kxN0, kxN1, kxN2, kxN3, kxN4, kxN5, kxN6, fxN0, fxN1, fxN2, fxN3, fxN4, fxN5, fxN6⟩ := blk7 f_a.rot4.blk; have f_z := Fr.set (n := 4) f_a.rot4 (.slice (some ⟨GE, 0, none⟩) (n + 1) capE); simp only [List.setIfInBounds_toArray, List.set_cons_zero, List.set_cons_succ] at f_z; have f_z := hid f_z) | (go_simp; go_at_call 55; (with_reducible refine (req_m hE hK n (by omega) (Fr.drew hsH.out)).mono ?_); rintro r W_r ⟨q, Sq, Aq, cq, Dq, m9, rfl, f_r, hm9, hv9⟩; obtain ⟨kuN0, kuN1, kuN2, kuN3, kuN4, kuN5, kuN6, fuN0, fuN1, fuN2, fuN3, fuN4, fuN5, fuN6⟩ := blk7 f_r.rot3.blk; obtain ⟨kwN0, kwN1, kwN2, kwN3, kwN4, kwN5, kwN6, fwN0, fwN1, fwN2, fwN3, fwN4, fwN5, fwN6⟩ := blk7 (f_r.alloc (.cells #[.slice Sq.A q.left.length Sq.cap, .int .i64 q.right.op, .string q.right.name, .int .i64 q.right.num, .slice Aq q.right.k cq, .int .i64 q.right.line, .int .i64 q.right.col, .int .i64 q.line, .int .i64 q.col] 67)).rot4.blk; replace hm9 := hid hm9; replace hv9 := hid hv9))
              all_goals
                go_wp2_with fail
                have f_q := f_z.out.rot2.tail.rot3.rot3.rot1
                have hr : (qs : List LEq).flatMap LEq.cells ++ (#[.slice Sq.A q.left.length Sq.cap, .int .i64 q.right.op, .string q.right.name, .int .i64 q.right.num, .slice Aq q.right.k cq, .int .i64 q.right.line, .int .i64 q.right.col, .int .i64 q.line, .int .i64 q.col] : Array Value).toList = (qs ++ [LEq.mk q Sq Aq cq]).flatMap LEq.cells := by
                  simp [LEq.cells, Sl.v]
                first | rw [hr] at f_q | skip
                have f_y := (f_q.fuse (x := eqsK (fun n => D n ∨ Dq n) (qs ++ [LEq.mk q Sq Aq cq])) (fun _ h => h) (eqs_push f_q.head.q f_q.tail.head.q) (eqsK_ok _ _)).rot2
                clear hr hsH f_z f_q f_91 kvN0 kvN1 kvN2 kvN3 kvN4 kvN5 kvN6 fvN0 fvN1 fvN2 fvN3 fvN4 fvN5 fvN6 kuN0 kuN1 kuN2 kuN3 kuN4 kuN5 kuN6 fuN0 fuN1 fuN2 fuN3 fuN4 fuN5 fuN6 kwN0 kwN1 kwN2 kwN3 kwN4 kwN5 kwN6 fwN0 fwN1 fwN2 fwN3 fwN4 fwN5 fwN6 kxN0 kxN1 kxN2 kxN3 kxN4 kxN5 kxN6 fxN0 fxN1 fxN2 fxN3 fxN4 fxN5 fxN6
                go_roundg gk
                case measure => omega
                case rel =>
                  refine ⟨_, n + 1, capE, qs ++ [LEq.mk q Sq Aq cq], _, m9, g1 ++ [(eqP s l n (.ok i)).1], by omega, by simp [hqn], f_y, hid ⟨by simp [hgl], fun j hj => ?_, by rw [hqxH.out, hm9.out]⟩⟩
                  have hlt := (eq_ok (hm9.out.symm.trans hj)).2 hn48
                  refine ⟨by omega, ?_⟩
                  rw [List.map_append, hg1, ← hv9.out j hj]
                  rfl
end Go.Proofs.Ytnlikhjmmnaknaa
