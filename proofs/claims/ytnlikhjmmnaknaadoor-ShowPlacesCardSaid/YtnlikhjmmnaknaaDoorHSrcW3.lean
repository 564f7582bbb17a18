/-
  The walk of FewNodes, with the lengths in what it says.
-/
import Derived.Test.YtnlikhjmmnaknaaDoorGF
namespace Go.Proofs.YtnlikhjmmnaknaaDoor
open Go.RowKit

def NodeE.few2 (n : NodeE) : Prop := n.few ∧ n.eqs.length ≤ 60

set_option maxRecDepth 100000 in
set_option maxHeartbeats 4000000 in
theorem fewNodes_len (s : List NodeE) (S : Sl) (B : Nat) (w : World) (hs : SrcIs B w s S) (hB : B ≤ w.heap.size) :
    Calls Tryd.prog 14 #[srcVal s S] w (FewP ((∀ n ∈ s, n.few2) ∧ s.length ≤ 20) w) := by
  obtain ⟨A, cap⟩ := S
  obtain ⟨⟨hf1, hf2⟩, hnd⟩ := hs
  simp only [srcVal, Sl.v] at *
  unfold maxLen at hf2
  have hcap' : (s.length : Int) ≤ 9223372036854775807 := by omega
  have HND := hid hnd
  have hb0 : Below (w.heap.size + 1) (w.alloc (.cells #[.slice A s.length cap] 38)) (w.alloc (.cells #[.slice A s.length cap] 38)) := Below.refl _ _
  have HB0 := hid hb0
  clear hnd hb0 hf1 hf2
  go_enter Tryd.func14, Tryd.ntmps14
  go_wp2_with fail
  go_loopw [3, 5, 7, 9, 13, 48, 63] (fun lf _ _ _ i _ _ wr => ∃ (j : Nat) (left : Int), j ≤ s.length ∧ i = .int .i64 j ∧ lf = .int .i64 left ∧ -1 ≤ left ∧ left ≤ 600 ∧ Hid (0 ≤ left → ∀ m (h : m < s.length), m < j → (s[m]).few2) ∧ Below (w.heap.size + 1) (w.alloc (.cells #[.slice A s.length cap] 38)) wr) (fun _ _ _ _ i _ _ _ => s.length - (intOf i).toNat)
  case atStart => exact ⟨0, 600, by omega, rfl, rfl, by omega, by omega, fun _ m _ h => absurd h (by omega), HB0.out⟩
  case round =>
    obtain ⟨j, left, hj, rfl, rfl, hl1, hl2, hup, hbr⟩ := hrel
    have hsz := boxed_size hbr
    have hbw := boxed_below hbr
    have y0 := boxed_all hbr 0
    simp only [List.getElem?_toArray, List.getElem?_cons_zero] at y0
    by_cases hlt : j < s.length
    · obtain ⟨b, o, rfl, hl⟩ := HND.out j hlt
      obtain ⟨hb, S, hc, hi⟩ := hl.keep (same_below hB hbw)
      obtain ⟨c0, c1, c2, c3, c4, c5, c6⟩ := hc
      have hi0 : (0 : Int) ≤ (j : Int) := by omega
      have hi1 : (j : Int) < (s.length : Int) := by omega
      have hlb : b < wr.heap.size := by omega
      have hyes : Hid ((s[j]).few2 → 0 ≤ left → ∀ m (h : m < s.length), m < j + 1 → (s[m]).few2) := fun hp h0 m hm hmj => by
        by_cases he : m = j
        · subst he; exact hp
        · exact hup.out h0 m hm (by omega)
      clear hup hl
      generalize s[j] = n at *
      obtain ⟨name, ins, outs, vars, eqs, nl, nc⟩ := n
      obtain ⟨⟨Ai, pi⟩, ⟨Ao, po⟩, ⟨Av, pv⟩, ⟨Ae, pe⟩⟩ := S
      simp only [Sl.v] at *
      obtain ⟨bx, hbx⟩ : ∃ bx : Array Value, bx = #[.string name, .slice Ai ins.length pi, .slice Ao outs.length po, .slice Av vars.length pv, .slice Ae eqs.length pe, .int .i64 nl, .int .i64 nc] := ⟨_, rfl⟩
      obtain ⟨V, hV⟩ : ∃ V, V = wr.alloc (.cells bx 46) := ⟨_, rfl⟩
      have hbV : Below wr.heap.size wr V := by rw [hV]; exact (Below.refl _ _).alloc (Nat.le_refl _) _
      have hzV : wr.heap.size < V.heap.size := by rw [hV]; simp
      have hVx : ∀ i, V.cell? ⟨wr.heap.size, i, none⟩ = bx[i]? := fun i => by rw [hV]; exact World.cell?_alloc_new _ _ _ _
      have HC : Hid (V.cell? ⟨wr.heap.size, 2, none⟩ = some (.slice Ao outs.length po) ∧ V.cell? ⟨wr.heap.size, 3, none⟩ = some (.slice Av vars.length pv) ∧ V.cell? ⟨wr.heap.size, 4, none⟩ = some (.slice Ae eqs.length pe)) :=
        ⟨by rw [hVx, hbx]; rfl, by rw [hVx, hbx]; rfl, by rw [hVx, hbx]; rfl⟩
      have hBr : B ≤ wr.heap.size := by omega
      have hsV : Go.Proofs.YtnlikhjmmnaknaaDoor.Same B wr V := same_below hBr hbV
      have j1 := hi.keep hsV
      have hbV2 := boxed_then hbr hbV
      have hk : ∀ W, Below V.heap.size V W → Go.Proofs.YtnlikhjmmnaknaaDoor.Same B V W := fun W h => same_below (by omega) h
      have hv1 := fewVars_any ins ⟨Ai, pi⟩ B V j1.fi j1.ins (by omega)
      have hv2 : ∀ W, Below V.heap.size V W → Calls Tryd.prog 27 #[.slice Ao outs.length po] W (FewP (∀ v ∈ outs, v.few) W) := fun W h =>
        fewVars_any outs ⟨Ao, po⟩ B W j1.fo (j1.outs.imp fun _ _ _ => VarAt.keep (hk W h)) (by have := h.size; omega)
      have hv3 : ∀ W, Below V.heap.size V W → Calls Tryd.prog 27 #[.slice Av vars.length pv] W (FewP (∀ v ∈ vars, v.few) W) := fun W h =>
        fewVars_any vars ⟨Av, pv⟩ B W j1.fv (j1.vars.imp fun _ _ _ => VarAt.keep (hk W h)) (by have := h.size; omega)
      obtain ⟨hg1, hg2⟩ := j1.fe
      simp only [maxLen, Sl.v] at hg1 hg2 hv1
      have hec : (eqs.length : Int) ≤ 9223372036854775807 := by omega
      have HE := hid j1.eqs
      rw [hbx] at hV
      have HV := hid hV
      have HV2 := hid hv2
      have HV3 := hid hv3
      have HV1 := hid hv1
      unfold FewP at HV1 HV2 HV3
      clear hbx bx hVx hsV j1 hi hv1 hv2 hv3 hV hk
      by_cases h30 : name.size ≤ 30
      · go_wp2_with fail
        rw [← HV.out]
        refine HV1.out.mono ?_
        rintro r w2 ⟨q1, rfl, hq1, hb2⟩
        obtain ⟨f2, f3, f4⟩ := HC.out
        have g2 := (hb2.cell (p := ⟨wr.heap.size, 2, none⟩) hzV).trans f2
        cases q1
        · have HK : Hid True := trivial
          go_wp2_with fail
          go_ret
          exact ⟨false, rfl, (fun h => by cases h), boxed_below (boxed_then hbV2 hb2)⟩
        · go_wp2_with fail
          refine (HV2.out w2 hb2).mono ?_
          rintro r w3 ⟨q2, rfl, hq2, hb3⟩
          have kb3 := hb2.trans (hb3.mono hb2.size)
          have g3 := (kb3.cell (p := ⟨wr.heap.size, 3, none⟩) hzV).trans f3
          cases q2
          · have HK : Hid True := trivial
            go_wp2_with fail
            go_ret
            exact ⟨false, rfl, (fun h => by cases h), boxed_below (boxed_then hbV2 kb3)⟩
          · go_wp2_with fail
            refine (HV3.out w3 kb3).mono ?_
            rintro r w4 ⟨q3, rfl, hq3, hb4⟩
            have kb4 := kb3.trans (hb4.mono kb3.size)
            have g4 := (kb4.cell (p := ⟨wr.heap.size, 4, none⟩) hzV).trans f4
            cases q3
            · have HK : Hid True := trivial
              go_wp2_with fail
              go_ret
              exact ⟨false, rfl, (fun h => by cases h), boxed_below (boxed_then hbV2 kb4)⟩
            · by_cases h60 : eqs.length ≤ 60
              · have HNF : Hid ((∀ q ∈ eqs, q.few) → NodeE.few2 ⟨name, ins, outs, vars, eqs, nl, nc⟩) := fun h => ⟨⟨show name.size ≤ 1000 by omega, by first | exact hq1 rfl | exact hq1 trivial, by first | exact hq2 rfl | exact hq2 trivial, by first | exact hq3 rfl | exact hq3 trivial, h⟩, h60⟩
                clear hq1 hq2 hq3 f2 f3 f4 g2 g3
                go_wp2_with fail
                have hkV : Below V.heap.size V w4 := kb4
                clear c0 c1 c2 c3 c4 c5 c6 hb2 hb3 hb4 kb3 kb4
                generalize wr.heap.size = T at *
                go_loopw [3, 7, 9, 48, 63] (fun lf _ _ i _ wr2 => ∃ (k : Nat) (lft : Int), k ≤ eqs.length ∧ i = .int .i64 k ∧ lf = .int .i64 lft ∧ -1 ≤ lft ∧ lft ≤ 600 ∧ Hid (0 ≤ lft → 0 ≤ left ∧ ∀ m (h : m < eqs.length), m < k → (eqs[m]).few) ∧ Below V.heap.size V wr2) (fun _ _ _ i _ _ => eqs.length - (intOf i).toNat)
                case atStart => exact ⟨0, left, by omega, rfl, rfl, hl1, hl2, fun h => ⟨h, fun m _ h2 => absurd h2 (by omega)⟩, hkV⟩
                case round =>
                  obtain ⟨k, lft, hk, rfl, rfl, hm1, hm2, hupk, hb5⟩ := hrel
                  have hz5 := hb5.size
                  have e4 := (hb5.cell (p := ⟨T, 4, none⟩) hzV).trans HC.out.2.2
                  have hbf := boxed_below (boxed_then hbV2 hb5)
                  by_cases hltk : k < eqs.length
                  · obtain ⟨g, og, rfl, hcq⟩ := HE.out k hltk
                    obtain ⟨hgb, ⟨P, r1⟩, C, s1, kq, mq⟩ := hcq.keep (same_below (by omega) hb5)
                    obtain ⟨u0, u1, u2, u3, u4, u5, u6, u7, u8⟩ := kq
                    have hk0 : (0 : Int) ≤ (k : Int) := by omega
                    have hk1 : (k : Int) < (eqs.length : Int) := by omega
                    have hgl : g < wr.heap.size := by omega
                    have hyk : Hid ((eqs[k]).few → 0 ≤ lft → 0 ≤ left ∧ ∀ m (h : m < eqs.length), m < k + 1 → (eqs[m]).few) := fun hp h0 => ⟨(hupk.out h0).1, fun m hm hmk => by
                      by_cases he : m = k
                      · subst he; exact hp
                      · exact (hupk.out h0).2 m hm (by omega)⟩
                    clear hupk hcq
                    generalize eqs[k] = q at *
                    obtain ⟨ql, qr, qa, qb⟩ := q
                    obtain ⟨_, _, ⟨hh1, hh2⟩, hlf, hrt⟩ := mq
                    simp only [Sl.v, maxLen] at *
                    have hqc : (ql.length : Int) ≤ 9223372036854775807 := by omega
                    obtain ⟨ex, hex⟩ : ∃ ex : Array Value, ex = #[.slice P ql.length r1, .int .i64 qr.op, .string qr.name, .int .i64 qr.num, .slice C qr.k s1, .int .i64 qr.line, .int .i64 qr.col, .int .i64 qa, .int .i64 qb] := ⟨_, rfl⟩
                    obtain ⟨X, hX⟩ : ∃ X, X = wr.alloc (.cells ex 49) := ⟨_, rfl⟩
                    have hbX : Below wr.heap.size wr X := by rw [hX]; exact (Below.refl _ _).alloc (Nat.le_refl _) _
                    have hzX : wr.heap.size < X.heap.size := by rw [hX]; simp
                    have hXx : ∀ i, X.cell? ⟨wr.heap.size, i, none⟩ = ex[i]? := fun i => by rw [hX]; exact World.cell?_alloc_new _ _ _ _
                    have hbVX : Below V.heap.size V X := hb5.trans (hbX.mono hz5)
                    have HXC : Hid (X.cell? ⟨wr.heap.size, 1, none⟩ = some (.int .i64 qr.op) ∧ X.cell? ⟨wr.heap.size, 2, none⟩ = some (.string qr.name) ∧ X.cell? ⟨wr.heap.size, 3, none⟩ = some (.int .i64 qr.num) ∧ X.cell? ⟨wr.heap.size, 4, none⟩ = some (.slice C qr.k s1) ∧ X.cell? ⟨wr.heap.size, 5, none⟩ = some (.int .i64 qr.line) ∧ X.cell? ⟨wr.heap.size, 6, none⟩ = some (.int .i64 qr.col)) :=
                      ⟨by rw [hXx, hex]; rfl, by rw [hXx, hex]; rfl, by rw [hXx, hex]; rfl, by rw [hXx, hex]; rfl, by rw [hXx, hex]; rfl, by rw [hXx, hex]; rfl⟩
                    have hsX : Go.Proofs.YtnlikhjmmnaknaaDoor.Same B wr X := same_below (by omega) hbX
                    have HLF := hid (SlAt.imp hlf fun _ _ _ => StrAt.keep hsX)
                    have hrX : ExAt B X qr C s1 := ExAt.keep hsX _ _ _ hrt
                    have hroom : 0 ≤ lft → Calls Tryd.prog 17 #[.agg #[.int .i64 qr.op, .string qr.name, .int .i64 qr.num, .slice C qr.k s1, .int .i64 qr.line, .int .i64 qr.col], .int .i64 lft, .int .i64 50] X fun r w' => r = .returned (.int .i64 (qr.room 50 lft)) ∧ Below X.heap.size X w' := fun h0 => by
                      have := room_any qr B C s1 lft 50 X hrX (by omega) h0 (by omega) (by omega) (by omega)
                      exact this
                    have hrb := fun h0 => room_bd qr 50 lft h0
                    have hsay := @room_says qr lft hm2
                    rw [hex] at hX
                    have HX := hid hX
                    have HRM := hid hroom
                    have HRB := hid hrb
                    have HSAY := hid hsay
                    clear hex ex hXx hX hroom hrb hsay hlf hrt hsX hrX
                    by_cases h0 : 0 ≤ lft
                    · by_cases h12 : ql.length ≤ 12
                      · have hb0 := HRB.out h0
                        go_wp2_with fail
                        rw [← HX.out]
                        clear u0 u1 u2 u3 u4 u5 u6 u7 u8 e4
                        generalize wr.heap.size = T2 at *
                        go_loop [9, 63] (fun _ i => ∃ t : Nat, t ≤ ql.length ∧ i = .int .i64 t ∧ Hid (∀ m (h : m < ql.length), m < t → (ql[m]).size ≤ 1000)) (fun _ i => ql.length - (intOf i).toNat)
                        case atStart => exact ⟨0, by omega, rfl, fun m _ h => absurd h (by omega)⟩
                        case round =>
                          obtain ⟨t, ht, rfl, hupt⟩ := hrel
                          by_cases hltt : t < ql.length
                          · obtain ⟨gb, go, rfl, hgc⟩ := HLF.out t hltt
                            obtain ⟨hgl2, hgs, hgx⟩ := hgc
                            simp only [Nat.mul_one] at hgx
                            have ht0 : (0 : Int) ≤ (t : Int) := by omega
                            have ht1 : (t : Int) < (ql.length : Int) := by omega
                            by_cases h30t : (ql[t]).size ≤ 30
                            · have HN : Hid (∀ m (h : m < ql.length), m < t + 1 → (ql[m]).size ≤ 1000) := fun m hm hmt => by
                                by_cases he : m = t
                                · subst he; omega
                                · exact hupt.out m hm (by omega)
                              clear hupt
                              go_wp2_with fail
                              go_round
                              case rel => exact ⟨t + 1, by omega, by go_num, HN⟩
                              case measure => simp [intOf]; omega
                            · clear hupt
                              go_wp2_with fail
                              go_ret
                              exact ⟨false, rfl, (fun h => by cases h), boxed_below (boxed_then hbV2 hbVX)⟩
                          · have : t = ql.length := by omega
                            subst this
                            have HQL : Hid (∀ x ∈ ql, x.size ≤ 1000) := fun x hx => by
                              obtain ⟨m, hm, rfl⟩ := List.getElem_of_mem hx
                              exact hupt.out m hm hm
                            obtain ⟨a1, a2, a3, a4, a5, a6⟩ := HXC.out
                            clear hupt
                            go_wp2_with fail
                            refine (HRM.out h0).mono ?_
                            rintro r w6 ⟨rfl, hb6⟩
                            have hb7 := hbVX.trans (hb6.mono (by have := hbVX.size; omega))
                            go_wp2_with fail
                            go_roundw
                            case rel => exact ⟨k + 1, qr.room 50 lft, by omega, by go_num, rfl, hb0.1, by omega, fun h1 => hyk.out ⟨(HSAY.out h1).1, (HSAY.out h1).2.1, (HSAY.out h1).2.2, HQL.out⟩ h0, hb7⟩
                            case measure => simp [intOf]; omega
                      · have h13 : (12 : Int) < (ql.length : Int) := by omega
                        go_wp2_with fail
                        rw [← HX.out]
                        go_ret
                        exact ⟨false, rfl, (fun h => by cases h), boxed_below (boxed_then hbV2 hbVX)⟩
                    · have h00 : lft < 0 := by omega
                      go_wp2_with fail
                      rw [← HX.out]
                      go_ret
                      exact ⟨false, rfl, (fun h => by cases h), boxed_below (boxed_then hbV2 hbVX)⟩
                  · have : k = eqs.length := by omega
                    subst this
                    have HQ : Hid (0 ≤ lft → 0 ≤ left ∧ ∀ q ∈ eqs, q.few) := fun h0 => ⟨(hupk.out h0).1, fun q hq => by
                      obtain ⟨m, hm, rfl⟩ := List.getElem_of_mem hq
                      exact (hupk.out h0).2 m hm hm⟩
                    clear hupk
                    go_wp2_with fail
                    go_roundw
                    case rel => exact ⟨j + 1, lft, by omega, by go_num, rfl, hm1, hm2, fun h0 => hyes.out (HNF.out (HQ.out h0).2) (HQ.out h0).1, boxed_then hbV2 hb5⟩
                    case measure => simp [intOf]; omega
              · have h61 : (60 : Int) < (eqs.length : Int) := by omega
                go_wp2_with fail
                go_ret
                exact ⟨false, rfl, (fun h => by cases h), boxed_below (boxed_then hbV2 kb4)⟩
      · go_wp2_with fail
        go_ret
        refine ⟨false, rfl, (fun h => by cases h), ?_⟩
        rw [← HV.out]
        exact boxed_below hbV2
    · have : j = s.length := by omega
      subst this
      have HS : Hid (0 ≤ left → ∀ n ∈ s, n.few2) := fun h0 n hn => by
        obtain ⟨m, hm, rfl⟩ := List.getElem_of_mem hn
        exact hup.out h0 m hm hm
      clear hup
      by_cases h0 : 0 ≤ left
      · go_wp2_with fail
        go_ret
        exact ⟨_, rfl, fun h => ⟨HS.out h0, by simp at h; omega⟩, hbw⟩
      · go_wp2_with fail
        go_ret
        exact ⟨false, rfl, (fun h => by cases h), hbw⟩
end Go.Proofs.YtnlikhjmmnaknaaDoor
