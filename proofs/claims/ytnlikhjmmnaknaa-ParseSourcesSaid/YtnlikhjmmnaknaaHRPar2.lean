/-
  The walks of the reference's Is, Take, Want, Name, Level (printed by gen_p2.py).
-/
import Derived.Test.YtnlikhjmmnaknaaHRPar
import Derived.Deep.CutRange
import Derived.StillTailTactics
namespace Go.Proofs.Ytnlikhjmmnaknaa
open Go.RowKit


set_option maxHeartbeats 4000000 in
set_option maxRecDepth 100000 in
theorem ris_m {s : ByteArray} {l : List Tk} {P g : Nat} {w : World} {m : Md} (h : Sm s l P g w m) (t : ByteArray) :
    Calls Try.prog 26 #[.pointer (some ⟨P, 0, none⟩), .string t] w fun r w' => r = .returned (.bool (m.is l t.data.toList)) ∧ Sm s l P g w' (m) ∧ w.grownBy w' (some P) := by
  go_enter Try.func26, Try.ntmps26
  have f_1 := PF.start h
  go_upto_region 1 with fail
  obtain ⟨i, crd, ⟨hlt_i, hj_i, hx1, hx2⟩, ⟨c0, c1, k0, k1, k2, k3, k4⟩, ⟨d0, d1, e0, e1, e2, e3, e4⟩⟩ := f_1.reads (.cells #[.int .i64 0, .string ⟨#[]⟩, .int .i64 0, .int .i64 0, .int .i64 0] 54)
  go_cut [5] from 6 to 15 (fun p wx => ∃ T1, p = .pointer (some ⟨T1, 0, none⟩) ∧ PF s l P g w (m) wx (blkK T1 (.cells #[.int .i64 (tkN l i).kind, .string (tkN l i).text, .int .i64 (tkN l i).num, .int .i64 (lnN s l i), .int .i64 (clN s l i)] 54 (0, 0)) :: []))
  case first =>
    go_region
    all_goals
      go_wp2_with fail
      go_meet
      case rel => exact ⟨_, rfl, (Fr.alloc f_1 (.cells #[.int .i64 (tkN l i).kind, .string (tkN l i).text, .int .i64 (tkN l i).num, .int .i64 (lnN s l i), .int .i64 (clN s l i)] 54)).drew⟩
  case rest =>
    obtain ⟨T, rfl, f_2⟩ := hcut
    clear c0 c1 k0 k1 k2 k3 k4 d0 d1 e0 e1 e2 e3 e4 f_1
    obtain ⟨er, x0, x1, x2⟩ := f_2.err
    obtain ⟨t0, t1, t2, t3, t4, -⟩ := blk5 f_2.blk
    have hf := hid f_2
    clear f_2
    cases m with
    | ok k =>
      obtain rfl : i = k := hj_i k rfl
      have x3 : (er == 0) = true := x2
      clear x1 x2
      go_wp2_with fail
      all_goals
        go_ret
        refine ⟨ret_bool ?_, hf.out.sm, hf.out.gr⟩
        show _ = isN l i t.data.toList
        unfold isN
        try simp only [ByteArray.toList_eq] at *
        grind
    | bad ea eb ec =>
      have x3 : (er == 0) = false := x2
      clear x1 x2
      go_wp2_with fail
      all_goals
        go_ret
        exact ⟨rfl, hf.out.sm, hf.out.gr⟩

set_option maxHeartbeats 4000000 in
set_option maxRecDepth 100000 in
theorem rtake_m {s : ByteArray} {l : List Tk} {P g : Nat} (hE : Ended l) {w : World} {m : Md} (h : Sm s l P g w m) (t : ByteArray) :
    Calls Try.prog 44 #[.pointer (some ⟨P, 0, none⟩), .string t] w fun r w' => r = .returned (.bool (m.is l t.data.toList)) ∧ Sm s l P g w' (m.take l t.data.toList) ∧ w.grownBy w' (some P) := by
  by_cases hi : m.is l t.data.toList = true
  · obtain ⟨k, rfl, hk⟩ := is_yes hi
    have hlt1 := isN_lt hE hk (PSt.lt h)
    rw [hi, show Md.take l (.ok k) t.data.toList = .ok (k + 1) from if_pos hk]
    have f_1 := PF.start h
    go_enter Try.func44, Try.ntmps44
    go_wp2_with fail
    refine (ris_m f_1.sm t).mono ?_
    rintro r W2 ⟨rfl, t_2, q_2⟩
    have f_2 := f_1.turn t_2 q_2
    clear f_1 t_2 q_2
    rw [hi]
    go_upto_region 2 with fail
    obtain ⟨p1, p1f, i1, hi1, hwr⟩ := f_2.at1
    have hgo : k + 1 = i1 := hi1
    rw [hgo] at hlt1
    go_wp2_with fail
    clear p1 p1f hwr
    have f_3 := f_2.up (j := i1) hlt1
    go_ret
    exact ⟨rfl, hgo ▸ f_3.sm, f_3.gr⟩
  · have hi2 : m.is l t.data.toList = false := eq_false_of_ne_true hi
    have hm : m.take l t.data.toList = m := by
      cases m with
      | ok i => exact if_neg hi
      | bad a b c => rfl
    rw [hi2, hm]
    have f_1 := PF.start h
    go_enter Try.func44, Try.ntmps44
    go_wp2_with fail
    refine (ris_m f_1.sm t).mono ?_
    rintro r W2 ⟨rfl, t_2, q_2⟩
    have f_2 := f_1.turn t_2 q_2
    clear f_1 t_2 q_2
    rw [hi2]
    go_wp2_with fail
    go_ret
    exact ⟨rfl, f_2.sm, f_2.gr⟩

set_option maxHeartbeats 4000000 in
set_option maxRecDepth 100000 in
theorem rwant_m {s : ByteArray} {l : List Tk} {P g : Nat} (hE : Ended l) {w : World} {m : Md} (h : Sm s l P g w m) (t : ByteArray) :
    Calls Try.prog 41 #[.pointer (some ⟨P, 0, none⟩), .string t] w fun r w' => r = .returned (.tuple #[]) ∧ Sm s l P g w' (m.want s l t.data.toList) ∧ w.grownBy w' (some P) := by
  by_cases hi : m.is l t.data.toList = true
  · obtain ⟨k, rfl, hk⟩ := is_yes hi
    rw [show Md.want s l (.ok k) t.data.toList = .ok (k + 1) from if_pos hk]
    have f_1 := PF.start h
    go_enter Try.func41, Try.ntmps41
    go_wp2_with fail
    refine (rtake_m hE f_1.sm t).mono ?_
    rintro r W2 ⟨rfl, t_2, q_2⟩
    have f_2 := f_1.turn t_2 q_2
    clear f_1 t_2 q_2
    rw [hi]
    rw [show Md.take l (.ok k) t.data.toList = .ok (k + 1) from if_pos hk] at f_2
    go_wp2_with fail
    go_end0
    exact ⟨rfl, f_2.sm, f_2.gr⟩
  · have hi2 : m.is l t.data.toList = false := eq_false_of_ne_true hi
    have hm : m.take l t.data.toList = m := by
      cases m with
      | ok i => exact if_neg hi
      | bad a b c => rfl
    have f_1 := PF.start h
    go_enter Try.func41, Try.ntmps41
    go_wp2_with fail
    refine (rtake_m hE f_1.sm t).mono ?_
    rintro r W2 ⟨rfl, t_2, q_2⟩
    have f_2 := f_1.turn t_2 q_2
    clear f_1 t_2 q_2
    rw [hi2]
    rw [hm] at f_2
    go_upto_region 1 with fail
    obtain ⟨i, crd, ⟨hlt_i, hj_i, hx1, hx2⟩, ⟨c0, c1, k0, k1, k2, k3, k4⟩, ⟨d0, d1, e0, e1, e2, e3, e4⟩⟩ := f_2.reads (.cells #[.int .i64 0] 27)
    go_region_with (go_at_call 18; (with_reducible refine (rfail_m (Fr.sm f_2.drew) (e := 21) (by decide) _ _).mono ?_); rintro r W_r ⟨rfl, t_r, q_r⟩)
    all_goals
      go_wp2_with fail
      go_end0
      have f_r := Fr.turn f_2.drew t_r q_r
      have hm2 : m.fail 21 (lnN s l i) (clN s l i) = m.want s l t.data.toList := by
        cases m with
        | ok k =>
          obtain rfl : i = k := hj_i k rfl
          have hi3 : isN l i t.data.toList = false := hi2
          simp only [Md.fail, Md.want, hi3]; rfl
        | bad a b c => rfl
      exact ⟨rfl, hm2 ▸ f_r.sm, f_r.gr⟩

set_option maxHeartbeats 4000000 in
set_option maxRecDepth 100000 in
theorem rlevel_hi {s : ByteArray} {l : List Tk} {P g : Nat} {L : Int} (hL : 64 < L) {w : World} {m : Md} (h : Sm s l P g w m) :
    Calls Try.prog 42 #[.pointer (some ⟨P, 0, none⟩), .int .i64 L] w fun r w' => ∃ i, (∀ j, m = .ok j → i = j) ∧ r = .returned (.tuple #[]) ∧ Sm s l P g w' (m.fail 22 (lnN s l i) (clN s l i)) ∧ w.grownBy w' (some P) := by
  have f_1 := PF.start h
  go_enter Try.func42, Try.ntmps42
  go_upto_region 1 with fail
  obtain ⟨i, crd, ⟨hlt_i, hj_i, hx1, hx2⟩, ⟨c0, c1, k0, k1, k2, k3, k4⟩, ⟨d0, d1, e0, e1, e2, e3, e4⟩⟩ := f_1.reads (.cells #[.int .i64 0] 27)
  go_region_with (go_at_call 18; (with_reducible refine (rfail_m (Fr.sm f_1.drew) (e := 22) (by decide) _ _).mono ?_); rintro r W_r ⟨rfl, t_r, q_r⟩)
  all_goals
    go_wp2_with fail
    go_end0
    have f_r := Fr.turn f_1.drew t_r q_r
    exact ⟨i, hj_i, rfl, f_r.sm, f_r.gr⟩

set_option maxHeartbeats 4000000 in
set_option maxRecDepth 100000 in
theorem rlevel_lo {s : ByteArray} {l : List Tk} {P g : Nat} {L : Int} (hL : L ≤ 64) {w : World} {m : Md} (h : Sm s l P g w m) :
    Calls Try.prog 42 #[.pointer (some ⟨P, 0, none⟩), .int .i64 L] w fun r w' => r = .returned (.tuple #[]) ∧ Sm s l P g w' (m) ∧ w.grownBy w' (some P) := by
  have f_1 := PF.start h
  go_enter Try.func42, Try.ntmps42
  go_wp2_with fail
  go_end0
  exact ⟨rfl, f_1.sm, f_1.gr⟩

set_option maxHeartbeats 4000000 in
set_option maxRecDepth 100000 in
theorem rname_m {s : ByteArray} {l : List Tk} {P g : Nat} (hE : Ended l) {w : World} {m : Md} (h : Sm s l P g w m) (more : Bool) :
    Calls Try.prog 46 #[.pointer (some ⟨P, 0, none⟩), .bool more] w fun r w' => ∃ i, i < l.length ∧ (∀ j, m = .ok j → i = j) ∧ r = .returned (.string (tkN l i).text) ∧ Sm s l P g w' (m.name s l (!more)) ∧ w.grownBy w' (some P) := by
  go_enter Try.func46, Try.ntmps46
  have f_1 := PF.start h
  go_upto_region 1 with fail
  obtain ⟨i, crd, ⟨hlt_i, hj_i, hx1, hx2⟩, ⟨c0, c1, k0, k1, k2, k3, k4⟩, ⟨d0, d1, e0, e1, e2, e3, e4⟩⟩ := f_1.reads (.cells #[.int .i64 0, .string ⟨#[]⟩, .int .i64 0, .int .i64 0, .int .i64 0] 54)
  go_cut [5] from 6 to 15 (fun p wx => ∃ T1, p = .pointer (some ⟨T1, 0, none⟩) ∧ PF s l P g w (m) wx (blkK T1 (.cells #[.int .i64 (tkN l i).kind, .string (tkN l i).text, .int .i64 (tkN l i).num, .int .i64 (lnN s l i), .int .i64 (clN s l i)] 54 (0, 0)) :: []))
  case first =>
    go_region
    all_goals
      go_wp2_with fail
      go_meet
      case rel => exact ⟨_, rfl, (Fr.alloc f_1 (.cells #[.int .i64 (tkN l i).kind, .string (tkN l i).text, .int .i64 (tkN l i).num, .int .i64 (lnN s l i), .int .i64 (clN s l i)] 54)).drew⟩
  case rest =>
    obtain ⟨T, rfl, f_2⟩ := hcut
    clear c0 c1 k0 k1 k2 k3 k4 d0 d1 e0 e1 e2 e3 e4 f_1
    by_cases hk : (tkN l i).kind = 1
    · have hk1 : ((tkN l i).kind != 1) = false := by simp [hk]
      have hkH := hid hk
      clear hk
      cases more with
      | false =>
        obtain ⟨t0, t1, t2, t3, t4, -⟩ := blk5 f_2.blk
        go_wp2_with fail
        refine (rfail_m f_2.sm (e := 3) (by decide) _ _).mono ?_
        rintro r W3 ⟨rfl, t_3, q_3⟩
        have f_3 := f_2.turn t_3 q_3
        clear f_2 t_3 q_3
        clear t0 t1 t2 t3 t4
        obtain ⟨t0, t1, t2, t3, t4, -⟩ := blk5 f_3.blk
        obtain ⟨er, x0, x1, x2⟩ := f_3.err
        have x3 : (er == 0) = false := by rw [x2]; first | rfl | (rw [fail_isBad]; rfl)
        clear x1 x2
        go_wp2_with fail
        go_ret
        refine ⟨i, hlt_i, hj_i, rfl, ?_, f_3.gr⟩
        have := f_3.sm
        cases m with
        | ok k => obtain rfl : i = k := hj_i k rfl; simpa only [Md.fail, Md.name, if_pos hkH.out, Bool.not_false, if_true] using this
        | bad ea eb ec => exact this
      | true =>
        cases m with
        | ok k =>
          obtain rfl : i = k := hj_i k rfl
          have hlt1 := hE i hlt_i (by have := hkH.out; omega)
          obtain ⟨t0, t1, t2, t3, t4, -⟩ := blk5 f_2.blk
          obtain ⟨er, x0, x1, x2⟩ := f_2.err
          have x3 : (er == 0) = true := x2
          clear x1 x2
          obtain ⟨p1, p1f, i1, hi1, hwr⟩ := f_2.at1
          go_upto_region 8 with fail
          clear x0 x3 p1 p1f hwr t0 t1 t2 t3 t4
          have f_3 := f_2.up (j := i1) (by subst hi1; exact hlt1)
          clear f_2
          generalize wc.setCell ⟨P, 1, none⟩ (.int .i64 (i1 : Int)) = W3 at *
          obtain ⟨t0, t1, t2, t3, t4, -⟩ := blk5 f_3.blk
          go_wp2_with fail
          go_ret
          refine ⟨i, hlt_i, hj_i, rfl, ?_, f_3.gr⟩
          have := f_3.sm
          rw [← hi1] at this
          simpa only [Md.name, if_pos hkH.out, Bool.not_true, if_neg (by simp : ¬ false = true)] using this
        | bad ea eb ec =>
          obtain ⟨t0, t1, t2, t3, t4, -⟩ := blk5 f_2.blk
          obtain ⟨er, x0, x1, x2⟩ := f_2.err
          have x3 : (er == 0) = false := by rw [x2]; first | rfl | (rw [fail_isBad]; rfl)
          clear x1 x2
          go_wp2_with fail
          go_ret
          refine ⟨i, hlt_i, hj_i, rfl, ?_, f_2.gr⟩
          have := f_2.sm
          exact this
    · have hk1 : ((tkN l i).kind != 1) = true := by simp [hk]
      have hkH := hid hk
      clear hk
      obtain ⟨t0, t1, t2, t3, t4, -⟩ := blk5 f_2.blk
      go_wp2_with fail
      refine (rfail_m f_2.sm (e := 21) (by decide) _ _).mono ?_
      rintro r W3 ⟨rfl, t_3, q_3⟩
      have f_3 := f_2.turn t_3 q_3
      clear f_2 t_3 q_3
      clear t0 t1 t2 t3 t4
      have hnm : ∀ b, m.fail 21 (lnN s l i) (clN s l i) = m.name s l b := fun b => by
        cases m with
        | ok k => obtain rfl : i = k := hj_i k rfl; simp only [Md.fail, Md.name, if_neg hkH.out]
        | bad ea eb ec => rfl
      cases more with
      | false =>
        obtain ⟨t0, t1, t2, t3, t4, -⟩ := blk5 f_3.blk
        go_wp2_with fail
        refine (rfail_m f_3.sm (e := 3) (by decide) _ _).mono ?_
        rintro r W4 ⟨rfl, t_4, q_4⟩
        have f_4 := f_3.turn t_4 q_4
        clear f_3 t_4 q_4
        clear t0 t1 t2 t3 t4
        rw [fail_fail] at f_4
        obtain ⟨t0, t1, t2, t3, t4, -⟩ := blk5 f_4.blk
        obtain ⟨er, x0, x1, x2⟩ := f_4.err
        have x3 : (er == 0) = false := by rw [x2]; first | rfl | (rw [fail_isBad]; rfl)
        clear x1 x2
        go_wp2_with fail
        go_ret
        refine ⟨i, hlt_i, hj_i, rfl, ?_, f_4.gr⟩
        have := f_4.sm
        exact hnm _ ▸ this
      | true =>
        obtain ⟨t0, t1, t2, t3, t4, -⟩ := blk5 f_3.blk
        obtain ⟨er, x0, x1, x2⟩ := f_3.err
        have x3 : (er == 0) = false := by rw [x2]; first | rfl | (rw [fail_isBad]; rfl)
        clear x1 x2
        go_wp2_with fail
        go_ret
        refine ⟨i, hlt_i, hj_i, rfl, ?_, f_3.gr⟩
        have := f_3.sm
        exact hnm _ ▸ this
end Go.Proofs.Ytnlikhjmmnaknaa
