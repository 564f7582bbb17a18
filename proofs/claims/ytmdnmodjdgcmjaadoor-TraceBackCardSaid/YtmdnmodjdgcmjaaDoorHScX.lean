/-
  The walk of the reference's Line (printed by gen_scrline.py).
-/
import Derived.Test.YtmdnmodjdgcmjaaDoorHScV
namespace Go.Proofs.YtmdnmodjdgcmjaaDoor
open Go.RowKit

theorem tail_push (r : List (List UInt8)) (x : List UInt8) : Lib.joinTail [32] (r ++ [x]) = Lib.joinTail [32] r ++ ([32] ++ x) := by
  unfold Lib.joinTail
  rw [List.map_append, List.flatten_append]
  simp
theorem tail_nil : Lib.joinTail [32] [] = [] := rfl
set_option maxRecDepth 100000 in
set_option maxHeartbeats 8000000 in
theorem rline_any (x : EvE) (R C : Sl) (D : Nat → Prop) (w : World) (hx : EvOf D w x R C) (hr : rightV x = true) :
    Calls Tryd.prog 18 #[x.val R C] w fun e w' => e = .returned (.string ⟨(lineV x).toArray⟩) ∧ Below w.heap.size w w' := by
  have hfn := ev_fine hx
  have h30 := words_30 hfn
  have h66 := words_most hr
  have hit := fun (v : Int) (hv : I64 v) W => rnumber_any v hv W
  have hb0 := (Below.refl w.heap.size w).alloc (Nat.le_refl _) (.cells #[.int .i64 x.kind, .int .i64 x.num, R.v x.row.length, C.v x.ch.length] 40)
  have hIn := (ints_at hx.row).keep hb0
  have hBy := (bytes_at hx.ch).keep hb0
  have hnum := hx.num
  have hfr := hx.fr
  have hfc := hx.fc
  have hX : (w.alloc (.cells #[.int .i64 x.kind, .int .i64 x.num, R.v x.row.length, C.v x.ch.length] 40)).heap[w.heap.size]? = _ := World.alloc_heap_new _ _
  replace hit := hid hit
  have hcase := right_kind hr
  have q1 := fun h => right_one hr h
  have q2 := fun h => right_two hr h
  have q3 := fun h => right_three hr h
  have q5 := fun h => right_five hr h
  obtain ⟨k, n, row, ch⟩ := x
  obtain ⟨A, a⟩ := R
  obtain ⟨B, b⟩ := C
  dsimp only at hcase q1 q2 q3 q5 hit hIn hBy hnum hfr hfc hX hb0
  simp only [EvE.val, Sl.v, Sl.fits, maxLen] at *
  have hr1 : (row.length : Int) ≤ 9223372036854775807 := by omega
  have hc1 : (ch.length : Int) ≤ 9223372036854775807 := by omega
  have hrb := fun j (h : j ≤ row.length) => joinTail_len ((row.take j).map Lib.itoa) fun y hy => by
    obtain ⟨v, hv, rfl⟩ := List.mem_map.1 hy
    exact itoa_30 (hfn.2 v (List.mem_of_mem_take hv))
  have hcb := fun j (h : j ≤ ch.length) => joinTail_len ((ch.take j).map byteT) fun y hy => by
    obtain ⟨v, hv, rfl⟩ := List.mem_map.1 hy
    exact itoa_30 (byte_ok v).2
  have hln := itoa_30 hnum
  obtain ⟨r, hrl⟩ : ∃ r, row.length = r := ⟨_, rfl⟩
  obtain ⟨c, hcl⟩ : ∃ c, ch.length = c := ⟨_, rfl⟩
  rw [hrl] at hr1 hX hb0 hIn hBy
  rw [hcl] at hc1 hX hb0 hIn hBy
  rw [hrl, hcl]
  clear hx hr hfr hfc
  go_enter Tryd.func18, Tryd.ntmps18
  go_upto_region 1 with fail
  generalize w.alloc (.cells #[.int .i64 k, .int .i64 n, .slice A r a, .slice B c b] 40) = W at *
  obtain ⟨x0, x1, x2, x3, -⟩ := blk4 hX
  replace hb0 := hid hb0
  replace hIn := hid hIn
  replace hBy := hid hBy
  clear hX
  generalize w.heap.size = X at x0 x1 x2 x3 ⊢
  rcases hcase with rfl | rfl | rfl | rfl | rfl
  · obtain ⟨g1, g2, g3, g4⟩ := q1 rfl
    clear q1 q2 q3 q5 g3
    subst g4
    go_wp2_with fail
    go_loopw [3, 4] (fun o i wr => ∃ (j : Nat), j ≤ r ∧ i = .int .i64 j ∧ o = .string ⟨(sSubmit ++ Lib.joinTail [32] ((row.take j).map Lib.itoa)).toArray⟩ ∧ wr = W) (fun _ i _ => r - (intOf i).toNat)
    case atStart => exact ⟨0, Nat.zero_le _, rfl, by rw [List.take_zero, List.map_nil, tail_nil, List.append_nil] <;> rfl, rfl⟩
    case round =>
      obtain ⟨j, hj, rfl, rfl, rfl⟩ := hrel
      have hbl := hrb j (by omega)
      rw [List.length_map, List.length_take] at hbl
      by_cases hlt : j < r
      · have hjl : j < row.length := by omega
        obtain ⟨bb, oo, rfl, hce⟩ := hIn.out j hjl
        have hj0 : (0 : Int) ≤ (j : Int) := by omega
        have hj1 : (j : Int) < (r : Int) := by omega
        have hstep : sSubmit ++ Lib.joinTail [32] ((row.take (j + 1)).map Lib.itoa) = ((sSubmit ++ Lib.joinTail [32] ((row.take j).map Lib.itoa)) ++ [32]) ++ Lib.itoa row[j] := by
          rw [List.take_succ_eq_append_getElem hjl, List.map_append, show [row[j]].map Lib.itoa = [Lib.itoa row[j]] from rfl, tail_push]
          simp
        have hJl : (sSubmit ++ Lib.joinTail [32] ((row.take j).map Lib.itoa)).length ≤ 3000 := by
          have hbs : (sSubmit).length ≤ 60 := (by decide)
          rw [List.length_append]
          omega
        have hitv := hit.out row[j] (hfn.2 _ (List.getElem_mem hjl))
        have hvl := itoa_30 (hfn.2 _ (List.getElem_mem hjl))
        replace hstep := hid hstep
        clear hbl
        generalize sSubmit ++ Lib.joinTail [32] ((row.take j).map Lib.itoa) = J at *
        skip
        generalize hv : row[j] = v at *
        skip
        go_wp2_with fail
        refine (hitv wr).mono ?_
        rintro r2 W2 ⟨rfl, rfl⟩
        generalize hI : Lib.itoa v = I at *
        have s1 : (⟨J.toArray⟩ : ByteArray) ++ ⟨#[32]⟩ = ⟨(J ++ [32]).toArray⟩ := str_append J [32]
        have hJ2 : (J ++ [32]).length ≤ 3001 := by simp; omega
        go_wp2_with fail
        go_roundw
        case rel => exact ⟨j + 1, by omega, by go_num, by rw [hstep.out]; simp only [str_append], trivial⟩
        case measure => simp [intOf]; omega
      · have hje : j = r := by omega
        subst hje
        have hall : (sSubmit ++ Lib.joinTail [32] ((row.take j).map Lib.itoa)) ++ [10] = lineV ⟨1, 0, row, ch⟩ := by
          rw [← hrl, List.take_length]
          unfold lineV
          rw [show wordsV ⟨1, 0, row, ch⟩ = sSubmit :: row.map Lib.itoa from rfl, Lib.join_cons]
          try (rfl)
        have hJl : (sSubmit ++ Lib.joinTail [32] ((row.take j).map Lib.itoa)).length ≤ 3000 := by
          have hbs : (sSubmit).length ≤ 60 := (by decide)
          rw [List.length_append]
          omega
        replace hall := hid hall
        clear hbl
        generalize sSubmit ++ Lib.joinTail [32] ((row.take j).map Lib.itoa) = J at *
        go_wp2_with fail
        go_ret
        exact ⟨by rw [line_add, hall.out]; rfl, hb0.out⟩
  · obtain ⟨g1, g2, g3⟩ := q2 (.inl rfl)
    clear q1 q2 q3 q5 g1 g2
    have hitv := hit.out n hnum
    have hall : lineV ⟨2, n, row, ch⟩ = ([114, 117, 110, 32] ++ Lib.itoa n) ++ [10] := by
      simp [lineV, wordsV, Lib.join_cons, Lib.joinTail, sRun]
    replace hall := hid hall
    go_wp2_with fail
    refine (hitv W).mono ?_
    rintro r2 W2 ⟨rfl, rfl⟩
    have s1 : (⟨#[114, 117, 110, 32]⟩ : ByteArray) ++ ⟨(Lib.itoa n).toArray⟩ = ⟨([114, 117, 110, 32] ++ Lib.itoa n).toArray⟩ := str_append [114, 117, 110, 32] _
    have hJ2 : ([114, 117, 110, 32] ++ Lib.itoa n).length ≤ 60 := by simp; omega
    generalize Lib.itoa n = I at *
    go_wp2_with fail
    go_ret
    refine ⟨?_, hb0.out⟩
    rw [hall.out]
    simp only [str_append]
    rfl
  · obtain ⟨g1, g2, g3⟩ := q3 rfl
    clear q1 q2 q3 q5 g1 g2
    subst g3
    go_wp2_with fail
    go_ret
    exact ⟨by rw [show lineV ⟨3, 0, row, ch⟩ = [115, 97, 118, 101, 10] by simp [lineV, wordsV, Lib.join_one, sSave]]; rfl, hb0.out⟩
  · obtain ⟨g1, g2, g3⟩ := q2 (.inr rfl)
    clear q1 q2 q3 q5 g1 g2
    have hitv := hit.out n hnum
    have hall : lineV ⟨4, n, row, ch⟩ = ([99, 117, 116, 32] ++ Lib.itoa n) ++ [10] := by
      simp [lineV, wordsV, Lib.join_cons, Lib.joinTail, sCut]
    replace hall := hid hall
    go_wp2_with fail
    refine (hitv W).mono ?_
    rintro r2 W2 ⟨rfl, rfl⟩
    have s1 : (⟨#[99, 117, 116, 32]⟩ : ByteArray) ++ ⟨(Lib.itoa n).toArray⟩ = ⟨([99, 117, 116, 32] ++ Lib.itoa n).toArray⟩ := str_append [99, 117, 116, 32] _
    have hJ2 : ([99, 117, 116, 32] ++ Lib.itoa n).length ≤ 60 := by simp; omega
    generalize Lib.itoa n = I at *
    go_wp2_with fail
    go_ret
    refine ⟨?_, hb0.out⟩
    rw [hall.out]
    simp only [str_append]
    rfl
  · obtain ⟨g1, g2, g3⟩ := q5 rfl
    clear q1 q2 q3 q5 g1
    by_cases hn0 : 0 ≤ n
    · have hitv := hit.out n hnum
      go_wp2_with fail
      refine (hitv W).mono ?_
      rintro r2 W2 ⟨rfl, rfl⟩
      have s1 : (⟨#[99, 114, 97, 115, 104, 32]⟩ : ByteArray) ++ ⟨(Lib.itoa n).toArray⟩ = ⟨([99, 114, 97, 115, 104, 32] ++ Lib.itoa n).toArray⟩ := str_append [99, 114, 97, 115, 104, 32] _
      have hwv : wordsV ⟨5, n, row, ch⟩ = sCrash :: Lib.itoa n :: ch.map byteT := by simp [wordsV, hn0]
      have hbn : ([99, 114, 97, 115, 104, 32] ++ Lib.itoa n).length ≤ 60 := by simp; omega
      have hbs : ([99, 114, 97, 115, 104, 32] ++ Lib.itoa n) = sCrash ++ ([32] ++ Lib.itoa n) := rfl
      replace hwv := hid hwv
      replace hbs := hid hbs
      generalize hB : [99, 114, 97, 115, 104, 32] ++ Lib.itoa n = BB at *
      replace hB := hid hB
      generalize Lib.itoa n = I at *
      go_wp2_with fail
      try rw [s1]
      go_loopw [3, 5] (fun o i wr => ∃ (j : Nat), j ≤ c ∧ i = .int .i64 j ∧ o = .string ⟨(BB ++ Lib.joinTail [32] ((ch.take j).map byteT)).toArray⟩ ∧ wr = W) (fun _ i _ => c - (intOf i).toNat)
      case atStart => exact ⟨0, Nat.zero_le _, rfl, by rw [List.take_zero, List.map_nil, tail_nil, List.append_nil] <;> rfl, rfl⟩
      case round =>
        obtain ⟨j, hj, rfl, rfl, rfl⟩ := hrel
        have hbl := hcb j (by omega)
        rw [List.length_map, List.length_take] at hbl
        by_cases hlt : j < c
        · have hjl : j < ch.length := by omega
          obtain ⟨bb, oo, rfl, hce⟩ := hBy.out j hjl
          have hj0 : (0 : Int) ≤ (j : Int) := by omega
          have hj1 : (j : Int) < (c : Int) := by omega
          have hstep : BB ++ Lib.joinTail [32] ((ch.take (j + 1)).map byteT) = ((BB ++ Lib.joinTail [32] ((ch.take j).map byteT)) ++ [32]) ++ Lib.itoa ((ch[j]).toNat : Int) := by
            rw [List.take_succ_eq_append_getElem hjl, List.map_append, show [ch[j]].map byteT = [Lib.itoa ((ch[j]).toNat : Int)] from rfl, tail_push]
            simp
          have hJl : (BB ++ Lib.joinTail [32] ((ch.take j).map byteT)).length ≤ 3000 := by
            have hbs : (BB).length ≤ 60 := hbn
            rw [List.length_append]
            omega
          have hitv := hit.out ((ch[j]).toNat : Int) (byte_ok _).2
          have hvl := itoa_30 (byte_ok ch[j]).2
          replace hstep := hid hstep
          clear hbl
          generalize BB ++ Lib.joinTail [32] ((ch.take j).map byteT) = J at *
          have hu := (ch[j]).toNat_lt
          generalize hv : (ch[j]).toNat = v at *
          have hv0 : (0 : Int) ≤ (v : Int) := by omega
          have hv1 : (v : Int) < 256 := by omega
          clear hu hv
          go_wp2_with fail
          refine (hitv wr).mono ?_
          rintro r2 W2 ⟨rfl, rfl⟩
          generalize hI : Lib.itoa (v : Int) = I at *
          have s1 : (⟨J.toArray⟩ : ByteArray) ++ ⟨#[32]⟩ = ⟨(J ++ [32]).toArray⟩ := str_append J [32]
          have hJ2 : (J ++ [32]).length ≤ 3001 := by simp; omega
          go_wp2_with fail
          go_roundw
          case rel => exact ⟨j + 1, by omega, by go_num, by rw [hstep.out]; simp only [str_append], trivial⟩
          case measure => simp [intOf]; omega
        · have hje : j = c := by omega
          subst hje
          have hall : (BB ++ Lib.joinTail [32] ((ch.take j).map byteT)) ++ [10] = lineV ⟨5, n, row, ch⟩ := by
            rw [← hcl, List.take_length]
            unfold lineV
            rw [show wordsV ⟨5, n, row, ch⟩ = sCrash :: I :: ch.map byteT from hwv.out, Lib.join_cons]
            try (rw [hbs.out]; simp [Lib.joinTail])
          have hJl : (BB ++ Lib.joinTail [32] ((ch.take j).map byteT)).length ≤ 3000 := by
            have hbs : (BB).length ≤ 60 := hbn
            rw [List.length_append]
            omega
          replace hall := hid hall
          clear hbl
          generalize BB ++ Lib.joinTail [32] ((ch.take j).map byteT) = J at *
          go_wp2_with fail
          go_ret
          exact ⟨by rw [line_add, hall.out]; rfl, hb0.out⟩
    · have hwv : wordsV ⟨5, n, row, ch⟩ = sCrash :: [45] :: ch.map byteT := by unfold wordsV; dsimp only; rw [if_neg (by decide), if_neg (by decide), if_neg (by decide), if_neg (by decide), if_neg (by omega)]
      replace hwv := hid hwv
      go_wp2_with fail
      go_loopw [3, 5] (fun o i wr => ∃ (j : Nat), j ≤ c ∧ i = .int .i64 j ∧ o = .string ⟨([99, 114, 97, 115, 104, 32, 45] ++ Lib.joinTail [32] ((ch.take j).map byteT)).toArray⟩ ∧ wr = W) (fun _ i _ => c - (intOf i).toNat)
      case atStart => exact ⟨0, Nat.zero_le _, rfl, by rw [List.take_zero, List.map_nil, tail_nil, List.append_nil] <;> rfl, rfl⟩
      case round =>
        obtain ⟨j, hj, rfl, rfl, rfl⟩ := hrel
        have hbl := hcb j (by omega)
        rw [List.length_map, List.length_take] at hbl
        by_cases hlt : j < c
        · have hjl : j < ch.length := by omega
          obtain ⟨bb, oo, rfl, hce⟩ := hBy.out j hjl
          have hj0 : (0 : Int) ≤ (j : Int) := by omega
          have hj1 : (j : Int) < (c : Int) := by omega
          have hstep : [99, 114, 97, 115, 104, 32, 45] ++ Lib.joinTail [32] ((ch.take (j + 1)).map byteT) = (([99, 114, 97, 115, 104, 32, 45] ++ Lib.joinTail [32] ((ch.take j).map byteT)) ++ [32]) ++ Lib.itoa ((ch[j]).toNat : Int) := by
            rw [List.take_succ_eq_append_getElem hjl, List.map_append, show [ch[j]].map byteT = [Lib.itoa ((ch[j]).toNat : Int)] from rfl, tail_push]
            simp
          have hJl : ([99, 114, 97, 115, 104, 32, 45] ++ Lib.joinTail [32] ((ch.take j).map byteT)).length ≤ 3000 := by
            have hbs : ([99, 114, 97, 115, 104, 32, 45]).length ≤ 60 := (by decide)
            rw [List.length_append]
            omega
          have hitv := hit.out ((ch[j]).toNat : Int) (byte_ok _).2
          have hvl := itoa_30 (byte_ok ch[j]).2
          replace hstep := hid hstep
          clear hbl
          generalize [99, 114, 97, 115, 104, 32, 45] ++ Lib.joinTail [32] ((ch.take j).map byteT) = J at *
          have hu := (ch[j]).toNat_lt
          generalize hv : (ch[j]).toNat = v at *
          have hv0 : (0 : Int) ≤ (v : Int) := by omega
          have hv1 : (v : Int) < 256 := by omega
          clear hu hv
          go_wp2_with fail
          refine (hitv wr).mono ?_
          rintro r2 W2 ⟨rfl, rfl⟩
          generalize hI : Lib.itoa (v : Int) = I at *
          have s1 : (⟨J.toArray⟩ : ByteArray) ++ ⟨#[32]⟩ = ⟨(J ++ [32]).toArray⟩ := str_append J [32]
          have hJ2 : (J ++ [32]).length ≤ 3001 := by simp; omega
          go_wp2_with fail
          go_roundw
          case rel => exact ⟨j + 1, by omega, by go_num, by rw [hstep.out]; simp only [str_append], trivial⟩
          case measure => simp [intOf]; omega
        · have hje : j = c := by omega
          subst hje
          have hall : ([99, 114, 97, 115, 104, 32, 45] ++ Lib.joinTail [32] ((ch.take j).map byteT)) ++ [10] = lineV ⟨5, n, row, ch⟩ := by
            rw [← hcl, List.take_length]
            unfold lineV
            rw [show wordsV ⟨5, n, row, ch⟩ = sCrash :: [45] :: ch.map byteT from hwv.out, Lib.join_cons]
            try (rfl)
          have hJl : ([99, 114, 97, 115, 104, 32, 45] ++ Lib.joinTail [32] ((ch.take j).map byteT)).length ≤ 3000 := by
            have hbs : ([99, 114, 97, 115, 104, 32, 45]).length ≤ 60 := (by decide)
            rw [List.length_append]
            omega
          replace hall := hid hall
          clear hbl
          generalize [99, 114, 97, 115, 104, 32, 45] ++ Lib.joinTail [32] ((ch.take j).map byteT) = J at *
          go_wp2_with fail
          go_ret
          exact ⟨by rw [line_add, hall.out]; rfl, hb0.out⟩
end Go.Proofs.YtmdnmodjdgcmjaaDoor
