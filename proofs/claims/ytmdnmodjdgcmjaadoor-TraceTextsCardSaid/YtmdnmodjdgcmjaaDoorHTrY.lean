/-
  The walk of the reference's line.
-/
import Derived.Deep.RegionHeld3
import Derived.Test.YtmdnmodjdgcmjaaDoorHTrN
import Derived.Test.YtmdnmodjdgcmjaaDoorHTrX
namespace Go.Proofs.YtmdnmodjdgcmjaaDoor
open Go.RowKit

theorem pre_iff (s p : List UInt8) : Lib.hasPrefix s p = true ↔ p.length ≤ s.length ∧ s.take p.length = p := by
  unfold Lib.hasPrefix
  rw [List.isPrefixOf_iff_prefix]
  constructor
  · intro h
    exact ⟨h.length_le, List.prefix_iff_eq_take.1 h |>.symm⟩
  · rintro ⟨_, h⟩
    exact List.prefix_iff_eq_take.2 h.symm
/-- where the arrow is looked for from i on -/
def IxFrom (z : List UInt8) (i : Nat) : Prop := Lib.index z arrow = if Lib.index (z.drop i) arrow = -1 then -1 else Lib.index (z.drop i) arrow + i
theorem ix_start (z : List UInt8) : IxFrom z 0 := by
  unfold IxFrom
  rw [List.drop_zero]
  split
  · assumption
  · simp
theorem ix_step {z : List UInt8} {i : Nat} (h : IxFrom z i) (hi : i < z.length) (hn : ¬ (z.drop i).take 3 = arrow) : IxFrom z (i + 1) := by
  unfold IxFrom at h ⊢
  have hp : List.isPrefixOf arrow (z.drop i) = false := by
    rw [Bool.eq_false_iff]
    intro h1
    rw [List.isPrefixOf_iff_prefix, List.prefix_iff_eq_take] at h1
    exact hn h1.symm
  rw [List.drop_eq_getElem_cons hi] at h hp
  rw [Lib.index, hp] at h
  rw [h]
  have hge := Lib.index_ge (z.drop (i + 1)) arrow
  by_cases h1 : Lib.index (z.drop (i + 1)) arrow = -1
  · simp [h1]
  · have hb : (Lib.index (z.drop (i + 1)) arrow == -1) = false := beq_eq_false_iff_ne.2 h1
    simp [hb, h1]
    rw [if_neg (by omega)]
    omega
theorem ix_hit {z : List UInt8} {i : Nat} (h : IxFrom z i) (hn : (z.drop i).take 3 = arrow) : Lib.cut z arrow = (z.take i, z.drop (i + 3), true) := by
  unfold IxFrom at h
  have h0 : Lib.index (z.drop i) arrow = 0 := by
    cases hz : z.drop i with
    | nil => rw [hz] at hn; cases hn
    | cons b t =>
      rw [Lib.index, if_pos]
      rw [List.isPrefixOf_iff_prefix, List.prefix_iff_eq_take, ← hz]
      exact hn.symm
  rw [h0, if_neg (by decide)] at h
  unfold Lib.cut
  rw [h, if_pos (by omega)]
  simp [arrow]
theorem ix_short : ∀ (l : List UInt8), l.length < 3 → Lib.index l arrow = -1
  | [], _ => rfl
  | b :: t, h => by
    have hp : List.isPrefixOf arrow (b :: t) = false := by
      rw [Bool.eq_false_iff]
      intro h1
      have := (List.isPrefixOf_iff_prefix.1 h1).length_le
      unfold arrow at this
      simp at this h
      omega
    rw [Lib.index, hp, ix_short t (by simp at h; omega)]
    rfl
theorem ix_end {z : List UInt8} {i : Nat} (h : IxFrom z i) (hi : z.length < i + 3) : Lib.cut z arrow = (z, [], false) := by
  unfold IxFrom at h
  rw [ix_short (z.drop i) (by rw [List.length_drop]; omega), if_pos rfl] at h
  unfold Lib.cut
  rw [h]; rfl

/-- what the reference's ReadRow leaves, behind a world of the caller's -/
def RRK (o : Option (List Int)) (w : World) (r : Ending) (w' : World) : Prop :=
  (∃ (ls : List Int) (A : Option Addr) (n c : Nat) (ok : Bool), r = .returned (.tuple #[.slice A n c, .bool ok]) ∧ ls.length = n ∧ (∀ v ∈ ls, I64 v) ∧ (∀ l, o = some l → ok = true ∧ ls = l) ∧ (o = none → ok = false) ∧ w'.ownsRow w.heap.size 3 1 (.slice A n c) n (ls.flatMap intC)) ∧ Below w.heap.size w w'
theorem rref_k {o : Option (List Int)} {w W w' : World} {r : Ending} (h : RRef o W r w') (hb : Below w.heap.size w W) : RRK o w r w' := by
  obtain ⟨ls, A, n, c, ok, rfl, h1, h2, h3, h4, f⟩ := h
  exact ⟨⟨ls, A, n, c, ok, rfl, h1, h2, h3, h4, row_base f.head.q hb.size⟩, hb.trans (f.low.mono hb.size)⟩
theorem pre_one {b : UInt8} {t : List UInt8} : Lib.hasPrefix (b :: t) [32] = (b == 32) := by
  unfold Lib.hasPrefix
  simp [List.isPrefixOf]
  rw [Bool.eq_iff_iff]; simp; exact eq_comm
set_option maxRecDepth 100000 in
set_option maxHeartbeats 2000000 in
theorem rline_tr (ts us : List Int) (A1 A2 A3 A4 : Option Addr) (c1 c2 n3 c3 n4 c4 k : Nat) (r : Int) (s : ByteArray) (w : World) (hx : IntsAt w A1 ts) (hy : IntsAt w A2 us) (hR1 : rightT ts = true) (hR2 : rightT us = true)
    (hk : k ≤ 100000) (hs : s.size ≤ 100000) :
    Calls Tryd.prog 58 #[.agg #[.slice A1 ts.length c1, .slice A2 us.length c2, .int .i64 r, .slice A3 n3 c3, .slice A4 n4 c4], .int .i64 (k : Int), .string s] w (LPost (lineP ts us k s.data.toList) w) := by
  have h8 := (right_cons hR1).2.1
  have h9 := (right_cons hR2).2.1
  have hX := hid (fun W (h : Below w.heap.size w W) => hx.keep h)
  have hY := hid (fun W (h : Below w.heap.size w W) => hy.keep h)
  have hk1 := hid (right_cons hR1).2.2
  have hk2 := hid (right_cons hR2).2.2
  have hsl := size_L s
  have hs1 : (s.size : Int) ≤ 9223372036854775807 := by omega
  have f_0 := (Fr.start0 w).alloc (.cells #[.slice A1 ts.length c1, .slice A2 us.length c2, .int .i64 r, .slice A3 n3 c3, .slice A4 n4 c4] 55)
  have hik := itoa_nat (k := k) (by omega)
  have hit := hid (fun W => rnumber_any (k : Int) (by unfold I64; omega) W)
  clear hx hy
  generalize ho : lineP ts us k s.data.toList = o
  unfold lineP headT at ho
  replace ho := hid ho
  go_enter Tryd.func58, Tryd.ntmps58
  go_upto_region 1 with fail
  generalize w.alloc (.cells #[.slice A1 ts.length c1, .slice A2 us.length c2, .int .i64 r, .slice A3 n3 c3, .slice A4 n4 c4] 55) = W1 at *
  generalize w.heap.size = P at f_0 ⊢
  go_wp2_with fail
  refine (hit.out W1).mono ?_
  rintro e W2 ⟨rfl, rfl⟩
  clear hit
  generalize Lib.itoa (k : Int) = I at *
  have hH : ∃ H : ByteArray, (⟨I.toArray⟩ : ByteArray) ++ ⟨#[58, 32]⟩ = H ∧ H.data.toList = I ++ [58, 32] := ⟨_, rfl, by simp⟩
  obtain ⟨H, hH1, hH2⟩ := hH
  rw [← hH2] at ho
  have hHs : H.size = I.length + 2 := by rw [← size_L, hH2]; simp
  have hH40 : H.size ≤ 40 := by omega
  replace hH2 := hid hH2
  replace hHs := hid hHs
  have hpi := pre_iff s.data.toList H.data.toList
  rw [size_L, size_L] at hpi
  by_cases hlen : H.size ≤ s.size
  · have hi1 : ¬ (s.size : Int) < (H.size : Int) := by omega
    have hi2 : (H.size : Int) ≤ (s.size : Int) := by omega
    have hi3 : (0 : Int) ≤ (H.size : Int) := by omega
    have hpe : (s.extract 0 H.size).data.toList = s.data.toList.take H.size := by
      rw [piece_extract]; unfold Lib.pieceU; simp
    by_cases heq : s.data.toList.take H.size = H.data.toList
    case neg =>
      have he : ((s.extract 0 H.size).toList == H.toList) = false := by rw [ByteArray.toList_eq, ByteArray.toList_eq, hpe]; exact beq_eq_false_iff_ne.2 heq
      have hpf : Lib.hasPrefix s.data.toList H.data.toList = false := by
        rw [Bool.eq_false_iff]
        intro h
        exact heq (hpi.1 h).2
      have ho2 := ho.out
      rw [hpf, if_neg (by decide)] at ho2
      subst ho2
      clear ho hpi hpf hpe
      go_wp2_with fail
      refine bodyPost_ret (v := .tuple #[.slice none 0 0, .slice none 0 0, .bool false]) (by simp [results, Tryd.results58, go_sem]) rfl (lpost_nil f_0)
    case pos =>
    have he : ((s.extract 0 H.size).toList == H.toList) = true := by rw [ByteArray.toList_eq, ByteArray.toList_eq, hpe, heq]; simp
    have hpf : Lib.hasPrefix s.data.toList H.data.toList = true := hpi.2 ⟨hlen, heq⟩
    have ho2 := ho.out
    rw [hpf, if_pos rfl] at ho2
    have hz1 : (s.extract H.size s.size).data.toList = Lib.trimPrefix s.data.toList H.data.toList := by
      rw [piece_extract]
      unfold Lib.pieceU Lib.trimPrefix
      rw [if_pos hpf, size_L, List.take_of_length_le (by rw [List.length_drop, size_L]; exact Nat.le_refl _)]
    rw [← hz1] at ho2
    have hzs : (s.extract H.size s.size).size ≤ 100000 := by
      have := size_L (s.extract H.size s.size)
      rw [hz1] at this
      have h2 := trim_len s.data.toList H.data.toList
      omega
    go_upto_region 5 with fail
    generalize s.extract H.size s.size = z at *
    replace ho2 := hid ho2
    have hzl := size_L z
    clear ho hpi hpf hpe hz1 heq he
    have hz1 : (z.size : Int) ≤ 9223372036854775800 := by omega
    go_wp2_with fail
    go_loopw [10] (fun i wr => ∃ j : Nat, j ≤ z.size ∧ i = .int .i64 j ∧ Hid (IxFrom z.data.toList j) ∧ Fr none (fun _ => True) w wr [blkK P (.cells #[.slice A1 ts.length c1, .slice A2 us.length c2, .int .i64 r, .slice A3 n3 c3, .slice A4 n4 c4] 55 (0, 0))]) (fun i _ => z.size - (intOf i).toNat)
    case atStart => exact ⟨0, Nat.zero_le _, rfl, ix_start _, f_0⟩
    case round =>
      clear f_0
      obtain ⟨j, hj, rfl, hix, f⟩ := hrel
      have hj0 : (0 : Int) ≤ (j : Int) := by omega
      by_cases hle : j + 3 ≤ z.size
      case neg =>
        have hj3 : ¬ (j : Int) + 3 ≤ (z.size : Int) := by omega
        have ho3 := ho2.out
        rw [ix_end hix.out (by omega)] at ho3
        obtain rfl : none = o := ho3
        clear ho2
        go_wp2_with fail
        refine bodyPost_ret (v := .tuple #[.slice none 0 0, .slice none 0 0, .bool false]) (by simp [results, Tryd.results58, go_sem]) rfl (lpost_nil f)
      case pos =>
      have hj3 : (j : Int) + 3 ≤ (z.size : Int) := by omega
      have hj4 : (j : Int) ≤ (j : Int) + 3 := by omega
      have hpe : (z.extract j (j + 3)).data.toList = (z.data.toList.drop j).take 3 := by
        rw [piece_extract]; unfold Lib.pieceU
        rw [show j + 3 - j = 3 by omega]
      by_cases hit : (z.data.toList.drop j).take 3 = arrow
      case neg =>
        have he : ((z.extract j (j + 3)).toList == [32, 45, 62]) = false := by rw [ByteArray.toList_eq, hpe]; exact beq_eq_false_iff_ne.2 hit
        have hst := hid (ix_step hix.out (by omega) hit)
        clear hpe
        go_wp2_with fail
        go_roundw
        case rel => exact ⟨j + 1, by omega, by go_num, hst.out, f⟩
        case measure => simp [intOf]; omega
      case pos =>
      have he : ((z.extract j (j + 3)).toList == [32, 45, 62]) = true := by rw [ByteArray.toList_eq, hpe, hit]; rfl
      have ho3 := ho2.out
      rw [ix_hit hix.out hit] at ho3
      replace ho3 : (match rowR ts (z.data.toList.take j) with
        | none => none
        | some la => tailP us la (z.data.toList.drop (j + 3))) = o := ho3
      clear hpe hit hix ho2
      have hy1 : (z.extract 0 j).data.toList = z.data.toList.take j := by
        rw [piece_extract]; unfold Lib.pieceU; simp
      have hys : (z.extract 0 j).size ≤ 100000 := by
        have := size_L (z.extract 0 j)
        rw [hy1, List.length_take] at this
        omega
      have hrr := hid (fun W (h : Below wr.heap.size wr W) => show Calls Tryd.prog 26 #[.slice A1 ts.length c1, .string (z.extract 0 j)] W (RRK (rowR ts (z.data.toList.take j)) wr) from
        (rreadrow_any ts A1 c1 (z.extract 0 j) W (hX.out W (f.low.trans (h.mono f.low.size))) (by omega) hk1.out hys).mono fun _ _ g => by rw [hy1] at g; exact rref_k g h)
      have hcell := hid (fun W (h : Below wr.heap.size wr W) => show W.cell? ⟨P, 0, none⟩ = some (.slice A1 ts.length c1) from (blkP (f.below h).blk).1)
      have hlow := hid (fun W (h : Below wr.heap.size wr W) => f.low.trans (h.mono f.low.size))
      clear hy1 hys
      generalize rowR ts (z.data.toList.take j) = oa at *
      replace ho3 := hid ho3
      have hdr : Below wr.heap.size wr wr.drew := Below.drew (Below.refl _ _)
      have x0 := hcell.out wr (Below.refl _ _)
      have hj5 : (j : Int) ≤ (z.size : Int) := by omega
      go_upto_region 9 with fail
      go_region_held3 (fun w' => w'.cell? ⟨P, 0, none⟩ = some (.slice A1 ts.length c1))
        (first | exact (hcell.out _ (by with_reducible assumption)) | go_keep)
        (first
          | (go_at_call 26; refine (hrr.out _ (by with_reducible assumption)).mono ?_; rintro r W4 ⟨⟨la, Aa, na, ca, oka, rfl, hla, h64, hs4, hn4, hown⟩, k4⟩))
      have f_1 := f.addRow k4 hown
      clear hrr hcell hdr x0 f hown k4 hlow
      cases oa with
      | none =>
        obtain rfl := hn4 rfl
        obtain rfl : none = o := ho3.out
        clear ho3 hs4
        go_wp2_with fail
        refine bodyPost_ret (v := .tuple #[.slice Aa na ca, .slice none 0 0, .bool false]) (by simp [results, Tryd.results58, go_sem]) rfl ?_
        exact ⟨la, [], Aa, na, ca, none, 0, 0, false, rfl, hla, rfl, h64, (fun v hv => by cases hv), (fun a b h => by cases h), fun _ => rfl, (f_1.nilRow 3 1).rot1.sub (List.Sublist.cons_cons _ (List.Sublist.cons_cons _ (List.nil_sublist _)))⟩
      | some l1 =>
        obtain ⟨rfl, rfl⟩ := hs4 l1 rfl
        have ho4 : tailP us la (z.data.toList.drop (j + 3)) = o := ho3.out
        unfold tailP at ho4
        clear ho3 hs4 hn4
        replace h64 := hid h64
        by_cases hend : j + 3 = z.size
        · have he1 : (j : Int) + 3 = (z.size : Int) := by omega
          rw [List.drop_eq_nil_of_le (by omega), if_pos rfl] at ho4
          subst ho4
          have he2 : ((j : Int) + 3 == (z.size : Int)) = true := by rw [he1]; simp
          replace hend := hid hend
          replace he1 := hid he1
          go_wp2_with fail
          refine bodyPost_ret (v := .tuple #[.slice Aa na ca, .slice none 0 0, .bool true]) (by simp [results, Tryd.results58, go_sem]) rfl ?_
          exact ⟨la, [], Aa, na, ca, none, 0, 0, true, rfl, hla, rfl, h64.out, (fun v hv => by cases hv), (fun a b h => by injection h with h; injection h with h1 h2; exact ⟨rfl, h1, h2⟩), (fun h => by cases h), (f_1.nilRow 3 1).rot1.sub (List.Sublist.cons_cons _ (List.Sublist.cons_cons _ (List.nil_sublist _)))⟩
        · have he2 : ((j : Int) + 3 == (z.size : Int)) = false := int_ne (by omega)
          have hlt : j + 3 < z.size := by omega
          have hltI : (j : Int) + 3 < (z.size : Int) := by omega
          have hj30 : (0 : Int) ≤ (j : Int) + 3 := by omega
          have hdg := drop_get z (j + 3) hlt
          rw [get_bang hlt] at hdg
          rw [hdg, if_neg (by simp), pre_one] at ho4
          have hb0 : z[j + 3].toNat < 256 := z[j + 3].toNat_lt
          by_cases h32 : z[j + 3] = 32
          case neg =>
            have h32n : ¬ z[j + 3].toNat = 32 := fun h => h32 (UInt8.toNat_inj.1 h)
            have hbb : ((z[j + 3].toNat : Int) == 32) = false := int_ne (by omega)
            rw [show (z[j + 3] == 32) = false from beq_eq_false_iff_ne.2 h32, if_neg (by decide)] at ho4
            subst ho4
            clear hdg h32 h32n
            go_wp2_with fail
            refine bodyPost_ret (v := .tuple #[.slice none 0 0, .slice none 0 0, .bool false]) (by simp [results, Tryd.results58, go_sem]) rfl (lpost_nil f_1)
          case pos =>
          have hbb : (z[j + 3].toNat : Int) = 32 := by rw [h32]; rfl
          rw [show (z[j + 3] == 32) = true by rw [h32]; rfl, if_pos rfl] at ho4
          have htr : Lib.trimPrefix (z[j + 3] :: z.data.toList.drop (j + 3 + 1)) [32] = z.data.toList.drop (j + 4) := by
            unfold Lib.trimPrefix
            rw [pre_one, show (z[j + 3] == 32) = true by rw [h32]; rfl, if_pos rfl]; rfl
          rw [htr] at ho4
          obtain ⟨m4, hm4⟩ : ∃ m4, m4 = j + 4 := ⟨_, rfl⟩
          rw [← hm4] at ho4 htr
          have hwr : IntKind.i64.wrap ((j : Int) + 4) = (m4 : Int) := by
            rw [show (j : Int) + 4 = (m4 : Int) by omega]
            exact wrap_r (by unfold R64; omega)
          have hj6 : (m4 : Int) ≤ (z.size : Int) := by omega
          have hj7 : (0 : Int) ≤ (m4 : Int) := by omega
          have hy2 : (z.extract (m4) z.size).data.toList = z.data.toList.drop (m4) := by
            rw [piece_extract]; unfold Lib.pieceU
            rw [List.take_of_length_le (by rw [List.length_drop, size_L]; exact Nat.le_refl _)]
          have hys2 : (z.extract (m4) z.size).size ≤ 100000 := by
            have := size_L (z.extract (m4) z.size)
            rw [hy2, List.length_drop] at this
            omega
          have hrr2 := hid (fun W (h : Below W4.heap.size W4 W) => show Calls Tryd.prog 26 #[.slice A2 us.length c2, .string (z.extract (m4) z.size)] W (RRK (rowR us (z.data.toList.drop (m4))) W4) from
            (rreadrow_any us A2 c2 (z.extract (m4) z.size) W (hY.out W (f_1.low.trans (h.mono f_1.low.size))) (by omega) hk2.out hys2).mono fun _ _ g => by rw [hy2] at g; exact rref_k g h)
          have hcell2 := hid (fun W (h : Below W4.heap.size W4 W) => show W.cell? ⟨P, 1, none⟩ = some (.slice A2 us.length c2) from (blkP (f_1.below h).rot1.blk).2.1)
          clear hy2 hys2 htr hdg
          generalize rowR us (z.data.toList.drop (m4)) = ob at *
          replace ho4 := hid ho4
          have hdr2 : Below W4.heap.size W4 W4.drew := Below.drew (Below.refl _ _)
          have x1 := hcell2.out W4 (Below.refl _ _)
          replace hm4 := hid hm4
          go_upto_region 14 with fail
          go_region_held3 (fun w' => w'.cell? ⟨P, 1, none⟩ = some (.slice A2 us.length c2))
            (first | exact (hcell2.out _ (by with_reducible assumption)) | go_keep)
            (first
              | (go_at_call 26; refine (hrr2.out _ (by with_reducible assumption)).mono ?_; rintro r W5 ⟨⟨lb, Ab, nb, cb, okb, rfl, hlb, h64b, hs5, hn5, hown2⟩, k5⟩))
          have f_2 := (f_1.addRow k5 hown2).rot1
          clear hrr2 hcell2 hdr2 x1 f_1 hown2 k5
          go_wp2_with fail
          refine bodyPost_ret (v := .tuple #[.slice Aa na ca, .slice Ab nb cb, .bool okb]) (by simp [results, Tryd.results58, go_sem]) rfl ?_
          refine ⟨la, lb, Aa, na, ca, Ab, nb, cb, okb, rfl, hla, hlb, h64.out, h64b, fun a b h => ?_, fun h => ?_, f_2.sub (List.Sublist.cons_cons _ (List.Sublist.cons_cons _ (List.nil_sublist _)))⟩
          · cases ob with
            | none => rw [← ho4.out] at h; cases h
            | some l2 =>
              obtain ⟨h1, rfl⟩ := hs5 l2 rfl
              rw [← ho4.out] at h
              injection h with h
              injection h with h2 h3
              exact ⟨h1, h2, h3⟩
          · cases ob with
            | none => exact hn5 rfl
            | some l2 => rw [← ho4.out] at h; cases h
  · have hi1 : (s.size : Int) < (H.size : Int) := by omega
    have hpf : Lib.hasPrefix s.data.toList H.data.toList = false := by
      rw [Bool.eq_false_iff]
      intro h
      exact hlen (hpi.1 h).1
    have ho2 := ho.out
    rw [hpf, if_neg (by decide)] at ho2
    subst ho2
    clear ho hpi hpf
    go_wp2_with fail
    refine bodyPost_ret (v := .tuple #[.slice none 0 0, .slice none 0 0, .bool false]) (by simp [results, Tryd.results58, go_sem]) rfl (lpost_nil f_0)
end Go.Proofs.YtmdnmodjdgcmjaaDoor
