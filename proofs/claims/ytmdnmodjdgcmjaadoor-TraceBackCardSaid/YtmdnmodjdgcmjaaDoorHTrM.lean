/-
  The walk of line.
-/
import Derived.Test.YtmdnmodjdgcmjaaDoorHTrW
import Derived.Test.YtmdnmodjdgcmjaaDoorHTrT
namespace Go.Proofs.YtmdnmodjdgcmjaaDoor
open Go.RowKit

def outR : Option (List Int) → List Int × Int
  | none => ([], 11)
  | some l => (l, 0)
theorem readW_right {ts : List Int} {s : List UInt8} (h : rightT ts = true) : readW ts s = outR (rowR ts s) := by
  unfold readW outR
  rw [if_neg (by rw [h]; decide)]
  rfl
def arrow : List UInt8 := [32, 45, 62]
def headT (k : Nat) : List UInt8 := Lib.itoa (k : Int) ++ [58, 32]
/-- what stands behind the arrow -/
def tailP (us : List Int) (la : List Int) (b : List UInt8) : Option (List Int × List Int) :=
  if b = [] then some (la, []) else if Lib.hasPrefix b [32] = true then (match rowR us (Lib.trimPrefix b [32]) with
    | none => none
    | some lb => some (la, lb)) else none
def bodyP (ts us : List Int) (c : List UInt8 × List UInt8 × Bool) : Option (List Int × List Int) :=
  if c.2.2 = true then (match rowR ts c.1 with
    | none => none
    | some la => tailP us la c.2.1) else none
/-- a tick's rows -/
def lineP (ts us : List Int) (k : Nat) (s : List UInt8) : Option (List Int × List Int) :=
  if Lib.hasPrefix s (headT k) = true then bodyP ts us (Lib.cut (Lib.trimPrefix s (headT k)) arrow) else none
/-- what line leaves -/
def LPost (o : Option (List Int × List Int)) (w : World) (r : Ending) (w' : World) : Prop :=
  ∃ (la lb : List Int) (A : Option Addr) (n c : Nat) (B : Option Addr) (m d : Nat) (ok : Bool), r = .returned (.tuple #[.slice A n c, .slice B m d, .bool ok]) ∧ la.length = n ∧ lb.length = m ∧ (∀ v ∈ la, I64 v) ∧ (∀ v ∈ lb, I64 v) ∧
    (∀ a b, o = some (a, b) → ok = true ∧ la = a ∧ lb = b) ∧ (o = none → ok = false) ∧ Fr none (fun _ => True) w w' [rowK w 3 1 (.slice A n c) n (la.flatMap intC), rowK w 3 1 (.slice B m d) m (lb.flatMap intC)]
theorem lpost_nil {w w' : World} {ks : List Kp} (f : Fr none (fun _ => True) w w' ks) : LPost none w (.returned (.tuple #[.slice none 0 0, .slice none 0 0, .bool false])) w' :=
  ⟨[], [], none, 0, 0, none, 0, 0, false, rfl, rfl, rfl, (fun v hv => by cases hv), (fun v hv => by cases hv), (fun a b h => by cases h), fun _ => rfl, ((f.nilRow 3 1).nilRow 3 1).sub (List.Sublist.cons_cons _ (List.Sublist.cons_cons _ (List.nil_sublist _)))⟩
theorem cut_len (s p : List UInt8) : (Lib.cut s p).1.length ≤ s.length ∧ (Lib.cut s p).2.1.length ≤ s.length := by
  unfold Lib.cut
  split
  · simp; omega
  · simp
theorem trim_len (s p : List UInt8) : (Lib.trimPrefix s p).length ≤ s.length := by
  unfold Lib.trimPrefix
  split
  · simp
  · exact Nat.le_refl _

theorem cutPrefix_l (z l : List UInt8) (W : World) : Calls Tryd.prog 73 #[.string ⟨z.toArray⟩, .string ⟨l.toArray⟩] W fun e w' => e = .returned (.tuple #[.string ⟨(Lib.trimPrefix z l).toArray⟩, .bool (Lib.hasPrefix z l)]) ∧ w' = W := Tryd.strings_CutPrefix ⟨z.toArray⟩ ⟨l.toArray⟩ W
theorem cut_l (z l : List UInt8) (hz : z.length ≤ 100000) (W : World) (h : MxC W) : Calls Tryd.prog 56 #[.string ⟨z.toArray⟩, .string ⟨l.toArray⟩] W fun e w' => e = .returned (.tuple #[.string ⟨(Lib.cut z l).1.toArray⟩, .string ⟨(Lib.cut z l).2.1.toArray⟩, .bool (Lib.cut z l).2.2]) ∧ ∃ n, w' = W.drewN n := by
  obtain ⟨m, hm⟩ := h
  exact Tryd.strings_Cut ⟨z.toArray⟩ ⟨l.toArray⟩ m W (by rw [str_ln]; omega) hm
theorem ba_list (s : ByteArray) : (⟨s.data.toList.toArray⟩ : ByteArray) = s := by cases s; simp
set_option maxRecDepth 100000 in
set_option maxHeartbeats 2000000 in
theorem line_tr (ts us : List Int) (A1 A2 A3 A4 : Option Addr) (c1 c2 n3 c3 n4 c4 k : Nat) (r : Int) (s : ByteArray) (w : World) (hx : IntsAt w A1 ts) (hy : IntsAt w A2 us) (hR1 : rightT ts = true) (hR2 : rightT us = true)
    (hk : k ≤ 100000) (hs : s.size ≤ 100000) (hT : Tabs w) (hM : MxC w) :
    Calls Tryd.prog 57 #[.agg #[.slice A1 ts.length c1, .slice A2 us.length c2, .int .i64 r, .slice A3 n3 c3, .slice A4 n4 c4], .int .i64 (k : Int), .string s] w (LPost (lineP ts us k s.data.toList) w) := by
  have h8 := (right_cons hR1).2.1
  have h9 := (right_cons hR2).2.1
  have hml : ∀ l : List Int, l.length ≤ 8 → l.length ≤ maxLen := fun l h => by unfold maxLen; omega
  have hrr1 := hid (fun (z : ByteArray) (hz : z.size ≤ 100000) W (h : Below w.heap.size w W) => show Calls Tryd.prog 22 #[.slice A1 ts.length c1, .string z] W (RRPost (outR (rowR ts z.data.toList)) W) by
    have := readrow_any ts A1 c1 z W (hx.keep h) (hml _ h8) hz (hT.below h) (hM.below h)
    rw [readW_right hR1] at this
    exact this)
  have hrr2 := hid (fun (z : ByteArray) (hz : z.size ≤ 100000) W (h : Below w.heap.size w W) => show Calls Tryd.prog 22 #[.slice A2 us.length c2, .string z] W (RRPost (outR (rowR us z.data.toList)) W) by
    have := readrow_any us A2 c2 z W (hy.keep h) (hml _ h9) hz (hT.below h) (hM.below h)
    rw [readW_right hR2] at this
    exact this)
  have hTW := hid (fun W (h : Below w.heap.size w W) => (hT.below h).tab)
  have hMW := hid (fun W (h : Below w.heap.size w W) => hM.below h)
  have hsl := size_L s
  have f_0 := (Fr.start0 w).alloc (.cells #[.slice A1 ts.length c1, .slice A2 us.length c2, .int .i64 r, .slice A3 n3 c3, .slice A4 n4 c4] 55)
  have hik := itoa_nat (k := k) (by omega)
  have hit := hid (fun W (h : Below w.heap.size w W) => itoa_any (k : Int) (by unfold I64; omega) W (hTW.out W h))
  clear hx hy hT hM
  generalize ho : lineP ts us k s.data.toList = o
  unfold lineP headT at ho
  replace ho := hid ho
  go_enter Tryd.func57, Tryd.ntmps57
  go_upto_region 1 with fail
  generalize w.alloc (.cells #[.slice A1 ts.length c1, .slice A2 us.length c2, .int .i64 r, .slice A3 n3 c3, .slice A4 n4 c4] 55) = W1 at *
  generalize w.heap.size = P at f_0 ⊢
  go_wp2_with fail
  refine (hit.out W1 f_0.low).mono ?_
  rintro e W2 ⟨rfl, hb⟩
  have f_1 := f_0.below hb
  clear f_0 hb hit
  generalize Lib.itoa (k : Int) = I at *
  have s1 : (⟨I.toArray⟩ : ByteArray) ++ ⟨#[58, 32]⟩ = ⟨(I ++ [58, 32]).toArray⟩ := str_append I [58, 32]
  have hc1 := cutPrefix_l s.data.toList (I ++ [58, 32]) W2
  rw [ba_list] at hc1
  have htl := trim_len s.data.toList (I ++ [58, 32])
  generalize Lib.trimPrefix s.data.toList (I ++ [58, 32]) = z at *
  generalize Lib.hasPrefix s.data.toList (I ++ [58, 32]) = hp at *
  have hc2 := cut_l z arrow (by omega) W2 (hMW.out W2 f_1.low)
  rw [show (⟨arrow.toArray⟩ : ByteArray) = ⟨#[32, 45, 62]⟩ from rfl] at hc2
  have hcl := cut_len z arrow
  generalize Lib.cut z arrow = q at *
  obtain ⟨qa, qb, qi⟩ := q
  dsimp only at hc2 hcl
  replace hc1 := hid hc1
  replace hc2 := hid hc2
  go_wp2_with fail
  refine hc1.out.mono ?_
  rintro e W3 ⟨rfl, rfl⟩
  clear s1 hc1
  go_wp2_with fail
  refine hc2.out.mono ?_
  rintro e W4 ⟨rfl, k4, rfl⟩
  clear hc2
  have f_2 := f_1.drewN k4
  obtain ⟨p0, p1, p2, p3, p4⟩ := blkP f_2.blk
  generalize W3.drewN k4 = W5 at *
  clear f_1
  cases hp with
  | false =>
    obtain rfl : none = o := by rw [← ho.out, if_neg (by decide)]
    go_wp2_with fail
    refine bodyPost_ret (v := .tuple #[.slice none 0 0, .slice none 0 0, .bool false]) (by simp [results, Tryd.results57, go_sem]) rfl (lpost_nil f_2)
  | true =>
    have ho2 := ho.out
    rw [if_pos rfl] at ho2
    cases qi with
    | false =>
      obtain rfl : none = o := ho2
      clear ho
      go_wp2_with fail
      refine bodyPost_ret (v := .tuple #[.slice none 0 0, .slice none 0 0, .bool false]) (by simp [results, Tryd.results57, go_sem]) rfl (lpost_nil f_2)
    | true =>
      have hra := hrr1.out ⟨qa.toArray⟩ (by rw [str_ln]; omega) W5 f_2.low
      replace hra : Calls Tryd.prog 22 #[.slice A1 ts.length c1, .string ⟨qa.toArray⟩] W5 (RRPost (outR (rowR ts qa)) W5) := hra
      replace ho2 : (match rowR ts qa with
        | none => none
        | some la => tailP us la qb) = o := ho2
      clear ho
      generalize rowR ts qa = oa at *
      replace hra := hid hra
      replace ho2 := hid ho2
      go_wp2_with fail
      refine hra.out.mono ?_
      rintro e W6 ⟨Aa, na, ca, rfl, hla, h64, hnl, fa⟩
      have f_3 := f_2.addRow fa.low fa.head.q
      clear f_2 fa hra p0 p1 p2 p3 p4
      cases oa with
      | none =>
        obtain rfl : none = o := ho2.out
        simp only [outR]
        go_wp2_with fail
        refine bodyPost_ret (v := .tuple #[.slice Aa na ca, .slice none 0 0, .bool false]) (by simp [results, Tryd.results57, go_sem]) rfl ?_
        exact ⟨[], [], Aa, na, ca, none, 0, 0, false, rfl, hla, rfl, (fun v hv => by cases hv), (fun v hv => by cases hv), (fun a b h => by cases h), fun _ => rfl, (f_3.nilRow 3 1).rot1.sub (List.Sublist.cons_cons _ (List.Sublist.cons_cons _ (List.nil_sublist _)))⟩
      | some la =>
        simp only [outR] at f_3 hla h64 ⊢
        have ho3 : tailP us la qb = o := ho2.out
        unfold tailP at ho3
        replace h64 := hid h64
        clear ho2
        by_cases hqb : qb = []
        · subst hqb
          rw [if_pos rfl] at ho3
          subst ho3
          go_wp2_with fail
          refine bodyPost_ret (v := .tuple #[.slice Aa na ca, .slice none 0 0, .bool true]) (by simp [results, Tryd.results57, go_sem]) rfl ?_
          exact ⟨la, [], Aa, na, ca, none, 0, 0, true, rfl, hla, rfl, h64.out, (fun v hv => by cases hv), (fun a b h => by injection h with h; injection h with h1 h2; exact ⟨rfl, h1, h2⟩), (fun h => by cases h), (f_3.nilRow 3 1).rot1.sub (List.Sublist.cons_cons _ (List.Sublist.cons_cons _ (List.nil_sublist _)))⟩
        · rw [if_neg hqb] at ho3
          have hne : qb.isEmpty = false := by cases qb with | nil => exact absurd rfl hqb | cons _ _ => rfl
          have hc3 := cutPrefix_l qb [32] W6
          have htl2 := trim_len qb [32]
          generalize Lib.hasPrefix qb [32] = hp2 at *
          generalize Lib.trimPrefix qb [32] = z2 at *
          obtain ⟨p0, p1, p2, p3, p4⟩ := blkP f_3.rot1.blk
          have hrb := hrr2.out ⟨z2.toArray⟩ (by rw [str_ln]; omega) W6 f_3.low
          replace hrb : Calls Tryd.prog 22 #[.slice A2 us.length c2, .string ⟨z2.toArray⟩] W6 (RRPost (outR (rowR us z2)) W6) := hrb
          generalize rowR us z2 = ob at *
          replace hc3 := hid hc3
          replace hrb := hid hrb
          replace ho3 := hid ho3
          replace hqb := hid hqb
          go_wp2_with fail
          refine hc3.out.mono ?_
          rintro e W7 ⟨rfl, rfl⟩
          go_wp2_with fail
          refine hrb.out.mono ?_
          rintro e W8 ⟨Ab, nb, cb, rfl, hlb, h64b, hnlb, fb⟩
          have f_4 := (f_3.addRow fb.low fb.head.q).rot1
          clear f_3 fb hrb p0 p1 p2 p3 p4 hc3
          replace h64b := hid h64b
          cases ob with
          | none =>
            simp only [outR] at f_4 hlb h64b ⊢
            obtain rfl : none = o := by rw [← ho3.out]; cases hp2 <;> rfl
            clear ho3
            cases hp2
            all_goals
              go_wp2_with fail
              refine bodyPost_ret (v := .tuple #[.slice Aa na ca, .slice Ab nb cb, .bool false]) (by simp [results, Tryd.results57, go_sem]) rfl ?_
              exact ⟨la, [], Aa, na, ca, Ab, nb, cb, false, rfl, hla, hlb, h64.out, (fun v hv => by cases hv), (fun a b h => by cases h), fun _ => rfl, f_4.sub (List.Sublist.cons_cons _ (List.Sublist.cons_cons _ (List.nil_sublist _)))⟩
          | some lb =>
            simp only [outR] at f_4 hlb h64b ⊢
            cases hp2 with
            | false =>
              obtain rfl : none = o := by rw [← ho3.out]; rfl
              clear ho3
              go_wp2_with fail
              refine bodyPost_ret (v := .tuple #[.slice Aa na ca, .slice Ab nb cb, .bool false]) (by simp [results, Tryd.results57, go_sem]) rfl ?_
              exact ⟨la, lb, Aa, na, ca, Ab, nb, cb, false, rfl, hla, hlb, h64.out, h64b.out, (fun a b h => by cases h), fun _ => rfl, f_4.sub (List.Sublist.cons_cons _ (List.Sublist.cons_cons _ (List.nil_sublist _)))⟩
            | true =>
              obtain rfl : some (la, lb) = o := by rw [← ho3.out]; rfl
              clear ho3
              go_wp2_with fail
              refine bodyPost_ret (v := .tuple #[.slice Aa na ca, .slice Ab nb cb, .bool true]) (by simp [results, Tryd.results57, go_sem]) rfl ?_
              exact ⟨la, lb, Aa, na, ca, Ab, nb, cb, true, rfl, hla, hlb, h64.out, h64b.out, (fun a b h => by injection h with h; injection h with h1 h2; exact ⟨rfl, h1, h2⟩), (fun h => by cases h), f_4.sub (List.Sublist.cons_cons _ (List.Sublist.cons_cons _ (List.nil_sublist _)))⟩
end Go.Proofs.YtmdnmodjdgcmjaaDoor
