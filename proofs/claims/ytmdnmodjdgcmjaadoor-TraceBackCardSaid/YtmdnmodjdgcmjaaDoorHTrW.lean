/-
  The walk of ReadRow.
-/
import Derived.Test.YtmdnmodjdgcmjaaDoorHTrD
namespace Go.Proofs.YtmdnmodjdgcmjaaDoor
open Go.RowKit Go.Shelf
attribute [local go_sem] Oper.semAt_some

/-- what ReadRow gives -/
def readW (ts : List Int) (s : List UInt8) : List Int × Int := if rightT ts = false then ([], 2) else match rowR ts s with
  | none => ([], 11)
  | some l => (l, 0)
def RRPost (p : List Int × Int) (w : World) (r : Ending) (w' : World) : Prop :=
  ∃ (A : Option Addr) (n c : Nat), r = .returned (.tuple #[.slice A n c, .int .i64 p.2]) ∧ p.1.length = n ∧ (∀ v ∈ p.1, I64 v) ∧ (n = 0 → A = none ∧ c = 0) ∧ Fr none (fun _ => True) w w' [rowK w 3 1 (.slice A n c) n (p.1.flatMap intC)]
theorem Fr.drewN' {P : Option Nat} {S : World → Prop} {w0 w : World} {ks : List Kp} (h : Fr P S w0 w ks) (k : Nat) : Fr P S w0 (w.drewN k) ks := h.drewN k
theorem Fr.putO {P : Option Nat} {S : World → Prop} {w0 w : World} {ks : List Kp} {L : Nat} {o : Obj} (h : Fr P S w0 w (blkK L o :: ks)) (o' : Obj) : Fr P S w0 (w.putObj L o') (blkK L o' :: ks) :=
  h.put (grownBy_putObj' w L o') (World.putObj_heap_same (Array.getElem?_eq_some_iff.1 h.blk).1)
section
variable (w0 : World) (ts : List Int) (A : Option Addr) (c : Nat) (o : Option (List Int)) (D T2 R4 R5 O6 Bx : Nat)
/-- between two rounds -/
def RowI (ob : Obj) (pre : List (List UInt8)) (ws : List (List UInt8)) (W : World) : Prop :=
  ∃ (ls : List Int) (G : Option Addr) (e : Nat) (bx : Value), ls.length = pre.length ∧ ls.length ≤ ts.length ∧ (∀ v ∈ ls, I64 v) ∧ (ls.length = 0 → G = none ∧ e = 0) ∧ (∀ rest, ws = pre ++ rest → RInv o (ts.drop ls.length) rest ls) ∧
    Fr none (fun _ => True) w0 W [rowK w0 3 1 (.slice G ls.length e) ls.length (ls.flatMap intC), blkK O6 (.cells #[.slice G ls.length e] 38 (0, 0)), blkK R5 (.cells #[.int .i64 0] 24 (0, 0)), blkK R4 (.cells #[.slice none 0 0] 38 (0, 0)), blkK T2 (.cells #[.slice A ts.length c] 38 (0, 0)),
      blkK Bx (.cells #[bx] 9 (0, 0)), blkK (D + 1) ob, blkK D (.deferred (some []))]
/-- a round has left -/
def RowX (ob : Obj) (W : World) : Prop := o = none ∧
    Fr none (fun _ => True) w0 W [blkK R5 (.cells #[.int .i64 11] 24 (0, 0)), blkK R4 (.cells #[.slice none 0 0] 38 (0, 0)), blkK (D + 1) ob, blkK D (.deferred (some []))]
end

set_option maxRecDepth 100000 in
set_option maxHeartbeats 2000000 in
theorem readrow_any (ts : List Int) (A : Option Addr) (c : Nat) (s : ByteArray) (w : World) (hx : IntsAt w A ts) (hn : ts.length ≤ maxLen) (hs : s.size ≤ 100000) (hT : Tabs w) (hM : MxC w) :
    Calls Tryd.prog 22 #[.slice A ts.length c, .string s] w (RRPost (readW ts s.data.toList) w) := by
  have hX := hid (fun W (h : Below w.heap.size w W) => hx.keep h)
  have hTW := hid (fun W (h : Below w.heap.size w W) => hT.below h)
  have hMW := hid (fun W (h : Below w.heap.size w W) => hM.below h)
  have hr := hid (fun W (h : Below w.heap.size w W) => right_t ts A c W (hx.keep h) hn)
  have hsz := size_L s
  unfold maxLen at hn
  have hx1 : (ts.length : Int) ≤ 9223372036854775807 := by omega
  clear hx hT hM
  generalize hp : readW ts s.data.toList = p
  replace hp := hid hp
  have f_0 := (((Fr.start0 w).alloc (.cells #[.slice A ts.length c] 38)).alloc (.cells #[.slice none 0 0] 38)).alloc (.cells #[.int .i64 0] 24)
  simp only [World.size_alloc] at f_0
  refine (callsIn_wide (n := 5)).1 ?_
  refine callsIn_of_wp_marks Tryd.func22 rfl trivial ?_ rfl
  simp only [Tryd.ntmps22, List.size_toArray, List.length_cons, List.length_nil, Nat.reduceAdd, Nat.reduceSub, Array.replicate_succ, Array.replicate_zero, List.push_toArray, List.append_toArray, List.nil_append, List.cons_append]
  obtain ⟨k0, -⟩ := blk1 f_0.rot2.blk
  gi_wp2_with fail
  generalize ((w.alloc (.cells #[.slice A ts.length c] 38)).alloc (.cells #[.slice none 0 0] 38)).alloc (.cells #[.int .i64 0] 24) = W0 at *
  generalize w.heap.size = T2 at f_0 k0 ⊢
  obtain ⟨R4, hR4⟩ : ∃ R, R = T2 + 1 := ⟨_, rfl⟩
  rw [← hR4] at f_0 ⊢
  obtain ⟨R5, hR5⟩ : ∃ R, R = R4 + 1 := ⟨_, rfl⟩
  rw [← hR5] at f_0 ⊢
  clear hR4 hR5 k0
  refine ⟨trivial, ?_⟩
  refine (callsIn_wide.2 (hr.out W0 f_0.low)).mono ?_
  rintro e W1 ⟨rfl, hb⟩
  have f_1 := f_0.below hb
  clear f_0 hb hr
  cases hR : rightT ts with
  | false =>
    obtain rfl : ([], 2) = p := by rw [← hp.out]; unfold readW; rw [if_pos hR]
    have f_2 := Fr.set (n := 0) f_1.rot1 (.slice none 0 0)
    simp only [List.setIfInBounds_toArray, List.set_cons_zero] at f_2
    have f_3 := Fr.set (n := 0) f_2.rot1 (.int .i64 2)
    simp only [List.setIfInBounds_toArray, List.set_cons_zero] at f_3
    obtain ⟨a0, fa0⟩ := blk1 f_1.rot1.blk
    obtain ⟨b0, fb0⟩ := blk1 f_2.rot1.blk
    gi_wp2_with fail
    clear a0 fa0 b0 fb0
    generalize (W1.setCell ⟨R4, 0, none⟩ (.slice none 0 0)).setCell ⟨R5, 0, none⟩ (.int .i64 2) = W3 at *
    obtain ⟨r0, -⟩ := blk1 f_3.blk
    obtain ⟨r1, -⟩ := blk1 f_3.rot1.blk
    refine ⟨_, by simp [results, Tryd.f22, go_sem, r0, r1], none, 0, 0, rfl, rfl, (fun v hv => by cases hv), fun _ => ⟨rfl, rfl⟩, ?_⟩
    exact (f_3.nilRow 3 1).sub (List.Sublist.cons_cons _ (List.nil_sublist _))
  | true =>
    gi_wp2_with fail
    refine ⟨trivial, ?_⟩
    refine (callsIn_wide.2 (words_make s _)).mono ?_
    rintro e W2 ⟨rfl, rfl⟩
    have f_2 := (f_1.alloc (.cells #[.slice none 0 0] 38)).alloc (.cells #[.string s] 9)
    rw [World.size_alloc] at f_2 ⊢
    generalize (W1.alloc (.cells #[.slice none 0 0] 38)).alloc (.cells #[.string s] 9) = W2 at *
    generalize W1.heap.size = O6 at f_2 ⊢
    obtain ⟨Bx, hBx⟩ : ∃ R, R = O6 + 1 := ⟨_, rfl⟩
    rw [← hBx] at f_2 ⊢
    clear f_1 hBx
    have h8 := (right_cons hR).2.1
    have f_3 := f_2.rot4.rot4.rot4.rot4.nilRow 3 1
    have hbx := f_2.blk
    have hss : (⟨s.data.toList.toArray⟩ : ByteArray) = s := by cases s; simp
    rw [← hss] at hbx
    have hpo : p = match rowR ts s.data.toList with
      | none => ([], 11)
      | some l => (l, 0) := by rw [← hp.out]; unfold readW; rw [if_neg (by rw [hR]; decide)]
    have hst : RInv (rowR ts s.data.toList) ts (splitS s.data.toList) [] := rinv_start _ _
    have hwz := split_size s.data.toList []
    rw [show splitGo s.data.toList [] = splitS s.data.toList from rfl] at hwz
    clear f_2 hp
    generalize rowR ts s.data.toList = o at *
    replace hpo := hid hpo
    replace hst := hid hst
    replace hwz := hid hwz
    obtain ⟨i0, zz, hi0, hz0, hs0, hb0, hcc0⟩ := info_int
    gi_wp2_with fail
    refine range_words s.data.toList (by omega) Bx rfl hbx (fun ob pre W => RowI w ts A c o W2.heap.size T2 R4 R5 O6 Bx ob pre (splitS s.data.toList) W) (fun ob W => RowX w o W2.heap.size R4 R5 ob W) ?hIr ?hXr ?hIw ?hXw ?hIb ?h0 ?a1 ?hassign ?hbody ?hdone ?hstop
    case hassign =>
      intro l x m W K hK
      gi_wp2
      exact hK
    case hIr =>
      rintro ob pre W ⟨ls, G, e, bx, _, _, _, _, _, f⟩
      exact ⟨(f.k (blkK (W2.heap.size + 1) ob) (by simp)).q, (f.k (blkK W2.heap.size (.deferred (some []))) (by simp)).q, hMW.out W f.low⟩
    case hXr =>
      rintro ob W ⟨_, f⟩
      exact ⟨(f.k (blkK (W2.heap.size + 1) ob) (by simp)).q, (f.k (blkK W2.heap.size (.deferred (some []))) (by simp)).q⟩
    case hIw =>
      rintro ob ob' pre W ⟨ls, G, e, bx, h1, h2, h3, h4, h5, f⟩
      exact ⟨ls, G, e, bx, h1, h2, h3, h4, h5, ((f.perm (List.perm_middle (l₁ := [_, _, _, _, _, _]) (l₂ := [_]))).putO ob').perm (List.perm_middle (l₁ := [_, _, _, _, _, _]) (l₂ := [_])).symm⟩
    case hXw =>
      rintro ob ob' W ⟨h1, f⟩
      exact ⟨h1, ((f.perm (List.perm_middle (l₁ := [_, _]) (l₂ := [_]))).putO ob').perm (List.perm_middle (l₁ := [_, _]) (l₂ := [_])).symm⟩
    case hIb =>
      rintro ob pre W k v ⟨ls, G, e, bx, h1, h2, h3, h4, h5, f⟩
      have f_4 := Fr.set (n := 0) ((f.drewN k).perm (List.perm_middle (l₁ := [_, _, _, _, _]) (l₂ := [_, _]))) v
      simp only [List.setIfInBounds_toArray, List.set_cons_zero] at f_4
      exact ⟨ls, G, e, v, h1, h2, h3, h4, h5, f_4.perm (List.perm_middle (l₁ := [_, _, _, _, _]) (l₂ := [_, _])).symm⟩
    case h0 =>
      intro ob
      refine ⟨[], none, 0, .string s, rfl, Nat.zero_le _, (fun v hv => by cases hv), fun _ => ⟨rfl, rfl⟩, fun rest hr => by rw [List.nil_append] at hr; rw [← hr]; exact hst.out, ?_⟩
      have f_4 := (f_3.alloc (.deferred (some []))).alloc ob
      rw [World.size_alloc] at f_4
      exact f_4.perm (List.perm_append_comm (l₁ := [_, _]) (l₂ := [_, _, _, _, _, _]))
    case hbody =>
      rintro l m ob pre x rest W hsp ⟨ls, G, e, bx, hl1, hl2, hl64, hnil, hri, f⟩
      have hri2 := hri (x :: rest) hsp
      have hxz := hwz.out x (by rw [hsp]; simp)
      have hnx := hid (fun r (h : splitS s.data.toList = (pre ++ [x]) ++ r) => show r = rest by
        rw [hsp] at h
        simpa using h.symm)
      replace hsp := hid hsp
      replace hl64 := hid hl64
      replace hl1 := hid hl1
      clear hri hnil
      obtain ⟨n, hnl⟩ : ∃ n, n = ls.length := ⟨_, rfl⟩
      rw [← hnl] at f hri2 hl2
      replace hnl := hid hnl
      obtain ⟨o0, fo0⟩ := blk1 f.rot1.blk
      obtain ⟨r50, fr50⟩ := blk1 f.rot2.blk
      obtain ⟨r40, fr40⟩ := blk1 f.rot3.blk
      obtain ⟨t0, -⟩ := blk1 f.rot4.blk
      by_cases hlt : n = ts.length
      · rw [List.drop_eq_nil_of_le (by omega)] at hri2
        have ho := hid (rinv_over hri2)
        have f_5 := Fr.set (n := 0) f.rot3 (.slice none 0 0)
        simp only [List.setIfInBounds_toArray, List.set_cons_zero] at f_5
        obtain ⟨q0, fq0⟩ := blk1 f_5.rot3.blk
        have f_6 := Fr.set (n := 0) f_5.rot3 (.int .i64 11)
        simp only [List.setIfInBounds_toArray, List.set_cons_zero] at f_6
        have hlb : ((n : Int) == (ts.length : Int)) = true := by rw [hlt]; simp
        replace hlt := hid hlt
        clear hri2
        gi_wp2_with fail
        exact ⟨ho.out, f_6.sub (List.Sublist.cons_cons _ (List.Sublist.cons_cons _ (List.Sublist.cons _ (List.Sublist.cons _ (List.Sublist.cons _ (List.Sublist.cons _ (List.Sublist.refl _)))))))⟩
      · have hjl : n < ts.length := by omega
        have hlb : ((n : Int) == (ts.length : Int)) = false := int_ne (by omega)
        obtain ⟨b, oo, hA, hc⟩ := hX.out W f.low n hjl
        rw [List.drop_eq_getElem_cons hjl] at hri2
        have hrd := hid (tread_any ts[n] ⟨x.toArray⟩ W (by rw [str_ln]; simp at hxz; omega) (hTW.out W f.low))
        have hno := hid (fun h => rinv_none hri2 h)
        have hso := hid (fun v h => rinv_some hri2 (v := v) h)
        rw [show (⟨x.toArray⟩ : ByteArray).data.toList = x from rfl] at hrd
        generalize ts[n] = t at *
        have hn0 : (0 : Int) ≤ (n : Int) := by omega
        have hn1 : (n : Int) < (ts.length : Int) := by omega
        clear hri2
        subst hA
        gi_wp2_with fail
        refine ⟨trivial, (fun h => by cases h), ?_⟩
        refine (CallsIn.inRound l (callsIn_wide.2 hrd.out)).mono ?_
        rintro r W1 ⟨hb, v, hv, rfl, hval⟩
        have f_1 := f.below hb
        clear o0 fo0 r50 fr50 r40 fr40 t0 hc hb hrd
        obtain ⟨o0, fo0⟩ := blk1 f_1.rot1.blk
        cases hq : rdV t x with
        | none =>
          have ho := hid (hno.out hq)
          obtain ⟨r50, fr50⟩ := blk1 f_1.rot2.blk
          obtain ⟨r40, fr40⟩ := blk1 f_1.rot3.blk
          have f_5 := Fr.set (n := 0) f_1.rot3 (.slice none 0 0)
          simp only [List.setIfInBounds_toArray, List.set_cons_zero] at f_5
          obtain ⟨q0, fq0⟩ := blk1 f_5.rot3.blk
          have f_6 := Fr.set (n := 0) f_5.rot3 (.int .i64 11)
          simp only [List.setIfInBounds_toArray, List.set_cons_zero] at f_6
          simp only [Option.isSome_none]
          gi_wp2_with fail
          exact ⟨ho.out, f_6.sub (List.Sublist.cons_cons _ (List.Sublist.cons_cons _ (List.Sublist.cons _ (List.Sublist.cons _ (List.Sublist.cons _ (List.Sublist.cons _ (List.Sublist.refl _)))))))⟩
        | some u =>
          obtain rfl := hval u hq
          have hin := hid (hso.out v hq)
          simp only [Option.isSome_some]
          have f_2 := f_1.alloc (.cells #[.int .i64 v] 3)
          obtain ⟨oa0, foa0⟩ := blk1 f_2.rot2.blk
          gi_wp2_with (gi_at_builtin; refine Fr.wpAppIn f_2 rfl _ _ _ rfl Tryd.underlying38 hi0 hz0 hs0 hb0 hcc0 (by decide) rfl rfl rfl int_one (by decide) (by unfold maxLen; omega) (by omega) ?_; intro G2 cap w2 f_3; obtain ⟨oc0, foc0⟩ := blk1 f_3.rot2.blk)
          have f_4 := Fr.set (n := 0) f_3.rot2 (.slice (some ⟨G2, 0, none⟩) (n + 1) cap)
          simp only [List.setIfInBounds_toArray, List.set_cons_zero] at f_4
          have f_5 := f_4.rot1.sub (List.Sublist.cons_cons _ (List.Sublist.cons_cons _ (List.sublist_cons_self _ _)))
          have hlen : (ls ++ [v]).length = n + 1 := by rw [List.length_append, hnl.out]; rfl
          refine ⟨⟨ls ++ [v], some ⟨G2, 0, none⟩, cap, bx, by rw [hlen, List.length_append, ← hl1.out, hnl.out]; rfl, by rw [hlen]; omega, ?_, fun h => absurd h (by rw [hlen]; omega), ?_, ?_⟩, ?_⟩
          · intro y hy
            rcases List.mem_append.1 hy with hy | hy
            · exact hl64.out y hy
            · rw [List.mem_singleton.1 hy]; exact hv
          · intro r hr
            rw [hlen, hnx.out r hr]
            exact hin.out
          · rw [hlen]; simpa [intC] using f_5
          · exact (f_5.k (blkK Bx (.cells #[bx] 9 (0, 0))) (by simp)).q.trans (f.k (blkK Bx (.cells #[bx] 9 (0, 0))) (by simp)).q.symm
    case hdone =>
      rintro ob W ⟨ls, G, e, bx, hl1, hl2, hl64, hnil, hri, f⟩
      have hri2 := hri [] (by simp)
      clear hri hl1
      obtain ⟨n, hnl⟩ : ∃ n, n = ls.length := ⟨_, rfl⟩
      rw [← hnl] at f hri2 hl2 hnil
      replace hnl := hid hnl
      replace hnil := hid hnil
      obtain ⟨o0, fo0⟩ := blk1 f.rot1.blk
      obtain ⟨t0, -⟩ := blk1 f.rot4.blk
      by_cases hlt : n < ts.length
      · rw [List.drop_eq_getElem_cons hlt] at hri2
        have ho := rinv_few hri2
        subst ho
        obtain rfl : p = ([], 11) := hpo.out
        have hlb : (n : Int) < (ts.length : Int) := by omega
        clear hri2
        obtain ⟨r50, fr50⟩ := blk1 f.rot2.blk
        obtain ⟨r40, fr40⟩ := blk1 f.rot3.blk
        have f_5 := Fr.set (n := 0) f.rot3 (.slice none 0 0)
        simp only [List.setIfInBounds_toArray, List.set_cons_zero] at f_5
        obtain ⟨q0, fq0⟩ := blk1 f_5.rot3.blk
        have f_6 := Fr.set (n := 0) f_5.rot3 (.int .i64 11)
        simp only [List.setIfInBounds_toArray, List.set_cons_zero] at f_6
        gi_wp2_with fail
        clear o0 fo0 r50 fr50 r40 fr40 t0 q0 fq0
        generalize (W.setCell ⟨R4, 0, none⟩ (.slice none 0 0)).setCell ⟨R5, 0, none⟩ (.int .i64 11) = W3 at *
        have f_7 := f_6.perm (List.perm_middle (l₁ := [_, _, _, _, _, _, _]) (l₂ := []))
        have hK := f_7.blk
        have f_8 := f_7.putO (.deferred none)
        obtain ⟨r0, -⟩ := blk1 f_8.rot1.blk
        obtain ⟨r1, -⟩ := blk1 f_8.rot2.blk
        refine ⟨by simp, .inl ⟨_, _, rfl, run_takeDeferred hK, ?_⟩⟩
        refine ⟨_, by simp [results, Tryd.f22, go_sem, r0, r1], none, 0, 0, rfl, rfl, (fun v hv => by cases hv), fun _ => ⟨rfl, rfl⟩, ?_⟩
        exact (f_8.nilRow 3 1).sub (List.Sublist.cons_cons _ (List.nil_sublist _))
      · rw [List.drop_eq_nil_of_le (by omega)] at hri2
        have ho := rinv_done hri2
        subst ho
        obtain rfl : p = (ls, 0) := hpo.out
        have hlb : ¬ (n : Int) < (ts.length : Int) := by omega
        have hne : n = ts.length := by omega
        replace hne := hid hne
        clear hri2
        obtain ⟨r50, fr50⟩ := blk1 f.rot2.blk
        obtain ⟨r40, fr40⟩ := blk1 f.rot3.blk
        have f_5 := Fr.set (n := 0) f.rot3 (.slice G n e)
        simp only [List.setIfInBounds_toArray, List.set_cons_zero] at f_5
        obtain ⟨q0, fq0⟩ := blk1 f_5.rot3.blk
        have f_6 := Fr.set (n := 0) f_5.rot3 (.int .i64 0)
        simp only [List.setIfInBounds_toArray, List.set_cons_zero] at f_6
        gi_wp2_with fail
        clear o0 fo0 r50 fr50 r40 fr40 t0 q0 fq0
        generalize (W.setCell ⟨R4, 0, none⟩ (.slice G n e)).setCell ⟨R5, 0, none⟩ (.int .i64 0) = W3 at *
        have f_7 := f_6.perm (List.perm_middle (l₁ := [_, _, _, _, _, _, _]) (l₂ := []))
        have hK := f_7.blk
        have f_8 := f_7.putO (.deferred none)
        obtain ⟨r0, -⟩ := blk1 f_8.rot1.blk
        obtain ⟨r1, -⟩ := blk1 f_8.rot2.blk
        refine ⟨by simp, .inl ⟨_, _, rfl, run_takeDeferred hK, ?_⟩⟩
        refine ⟨_, by simp [results, Tryd.f22, go_sem, r0, r1], G, n, e, rfl, hnl.out.symm, hl64, hnil.out, ?_⟩
        exact f_8.rot3.sub (List.Sublist.cons_cons _ (List.nil_sublist _))
    case hstop =>
      rintro ob W ⟨rfl, f⟩
      obtain rfl : p = ([], 11) := hpo.out
      gi_wp2
      have f_7 := f.perm (List.perm_middle (l₁ := [_, _, _]) (l₂ := []))
      have hK := f_7.blk
      have f_8 := f_7.putO (.deferred none)
      obtain ⟨r0, -⟩ := blk1 f_8.rot1.blk
      obtain ⟨r1, -⟩ := blk1 f_8.rot2.blk
      refine ⟨by simp, .inl ⟨_, _, rfl, run_takeDeferred hK, ?_⟩⟩
      refine ⟨_, by simp [results, Tryd.f22, go_sem, r0, r1], none, 0, 0, rfl, rfl, (fun v hv => by cases hv), fun _ => ⟨rfl, rfl⟩, ?_⟩
      exact (f_8.nilRow 3 1).sub (List.Sublist.cons_cons _ (List.nil_sublist _))
end Go.Proofs.YtmdnmodjdgcmjaaDoor
