/-
  The walk of the statement TokenBack.
-/
import Derived.Deep.RegionHeld3
import Derived.Test.YtiencmbbkbicnaaRSame11
namespace Go.Proofs.Ytiencmbbkbicnaa
open Go.RowKit

theorem go_bad (s : ByteArray) : ∀ (f n i : Nat) (l : List Tk) (e : Int) (p : Nat), scanGo s f n i l = .bad e p → (e == 0) = false := by
  intro f
  induction f with
  | zero => intro n i l e p h; unfold scanGo at h; cases h
  | succ f ih =>
    intro n i l e p h
    unfold scanGo at h
    split at h
    · cases h
    · split at h
      · injection h with h1 _; subst h1; rfl
      · split at h
        · exact ih _ _ _ _ _ h
        · injection h with h1 _; subst h1; rfl
theorem scan_bad {s : ByteArray} {e : Int} {p : Nat} (h : scanOf s = .bad e p) : (e == 0) = false := by
  unfold scanOf at h
  split at h
  · injection h with h1 _; subst h1; rfl
  · exact go_bad _ _ _ _ _ _ _ h

/-- where the tokens before end -/
def endOf (l : List Tk) : Nat → Nat
  | 0 => 0
  | k + 1 => match l[k]? with
    | some t => t.pos + t.text.size
    | none => 0
theorem endOf_succ {l : List Tk} {k : Nat} (h : k < l.length) : endOf l (k + 1) = (l[k]).pos + (l[k]).text.size := by
  simp only [endOf, List.getElem?_eq_getElem h]
theorem scan_places {s : ByteArray} {l : List Tk} (h : scanOf s = .toks l) (k : Nat) (hk : k < l.length) : endOf l k ≤ (l[k]).pos ∧ (l[k]).pos + (l[k]).text.size ≤ s.size ∧ (l[k]).text = s.extract (l[k]).pos ((l[k]).pos + (l[k]).text.size) := by
  unfold scanOf at h
  split at h
  · cases h
  · obtain ⟨r, hr, ht, hn⟩ := go_toks s _ 0 0 [] l (by omega) (by omega) (by omega) h
    rw [List.nil_append] at hr
    subst hr
    obtain ⟨⟨a, h1, h2, h3, h4⟩, h5, h6⟩ := toks_places ht (Nat.zero_le _) k hk
    refine ⟨?_, h5, h6⟩
    cases k with
    | zero => exact Nat.zero_le _
    | succ k => rw [endOf_succ (by omega), h3 k (by omega) rfl]; exact h1

/-- a world behind a token's variable -/
def BackIn (W : World) (b : Nat) (w' : World) : Prop := Below W.heap.size W w' ∧ b < W.heap.size
theorem BackIn.then {W w1 w2 : World} {b : Nat} (h : BackIn W b w1) (hb : Below w1.heap.size w1 w2) : BackIn W b w2 := ⟨h.1.trans (hb.mono h.1.size), h.2⟩
theorem BackIn.drewN {W w1 : World} {b : Nat} (h : BackIn W b w1) (n : Nat) : BackIn W b (w1.drewN n) := h.then ⟨rfl, rfl, rfl, Nat.le_refl _, fun _ _ => rfl⟩
theorem BackIn.drew {W w1 : World} {b : Nat} (h : BackIn W b w1) : BackIn W b w1.drew := h.drewN 1
theorem BackIn.cell {W w1 : World} {b : Nat} (h : BackIn W b w1) (k : Nat) : w1.cell? ⟨b, k, none⟩ = W.cell? ⟨b, k, none⟩ := h.1.cell (p := ⟨b, k, none⟩) h.2

set_option maxRecDepth 100000 in
set_option maxHeartbeats 4000000 in
theorem back_any (s : ByteArray) (w : World) (hs : s.size ≤ maxLen) : Calls Try.prog 8 #[.string s] w fun r w' => r = .returned (.bool true) ∧ Below w.heap.size w w' := by
  have hs' := hs
  unfold maxLen at hs'
  by_cases hcap : 2000 < s.size
  · go_enter Try.func8, Try.ntmps8
    go_wp2_with (go_at_call 27; refine (awake_any w).mono ?_; rintro r w1 ⟨rfl, hb1⟩)
    go_ret
    exact ⟨rfl, hb1⟩
  · cases hsc : scanOf s with
    | bad e p =>
      have he := scan_bad hsc
      have hpb := place_bd s p
      have HSC := hid hsc
      clear hsc
      obtain ⟨p1, p2, p3, p4⟩ := hpb
      go_enter Try.func8, Try.ntmps8
      go_wp2_with (first
        | (go_at_call 27; refine (awake_any w).mono ?_; rintro r w1 ⟨rfl, hb1⟩)
        | (go_at_call 28; refine (scan_any s w1 hs).mono ?_; rintro r w2 ⟨hb2, hr2⟩; rw [HSC.out] at hr2; obtain rfl := hr2; have hb3 := (hb1.trans (hb2.mono hb1.size)).alloc (hb1.trans (hb2.mono hb1.size)).size (.cells #[.int .i64 e, .int .i64 (place s p).1, .int .i64 (place s p).2] 43)))
      go_ret
      exact ⟨rfl, hb3⟩
    | toks l =>
      have hl := scan_short hsc
      have hpl := scan_places hsc
      have hback := fun X => @scan_back s X l hsc
      have HSC := hid hsc
      have HPL := hid hpl
      have HBK := hid hback
      clear hsc hpl hback
      go_enter Try.func8, Try.ntmps8
      go_wp2_with (first
        | (go_at_call 27; refine (awake_any w).mono ?_; rintro r w1 ⟨rfl, hb1⟩)
        | (go_at_call 28; refine (scan_any s w1 hs).mono ?_; rintro r w2 ⟨hb2, hr2⟩; rw [HSC.out] at hr2; obtain ⟨g, c, rfl, hown2⟩ := hr2; have hb3 := (hb1.trans (hb2.mono hb1.size)).alloc (hb1.trans (hb2.mono hb1.size)).size (.cells #[.int .i64 0, .int .i64 0, .int .i64 0] 43); have ho := hown2.alloc (.cells #[.int .i64 0, .int .i64 0, .int .i64 0] 43)))
      clear hown2
      generalize w2.alloc (.cells #[.int .i64 0, .int .i64 0, .int .i64 0] 43) = W at *
      go_loopw [5, 6, 8, 41] (fun x a _ v wr => ∃ (k q : Nat) (X : ByteArray), k ≤ l.length ∧ v = .int .i64 k ∧ a = .int .i64 q ∧ x = .string X ∧ q ≤ s.size ∧ X.size ≤ k * 2001 ∧ Hid (X.data.toList = allL (l.take k)) ∧ Hid (q = endOf l k) ∧ Below W.heap.size W wr) (fun _ _ _ v _ => l.length - (intOf v).toNat)
      case atStart => exact ⟨0, 0, ⟨#[]⟩, by omega, rfl, rfl, rfl, by omega, by show 0 ≤ _; omega, rfl, rfl, Below.refl _ _⟩
      case round =>
        obtain ⟨k, q, X, hk, rfl, rfl, rfl, hq, hX, HX, HQ, hbr⟩ := hrel
        by_cases hlt : k < l.length
        · obtain ⟨x0, x1, x2, x3, x4⟩ := tk_row (ho.kept (grownNone hbr) (.inr (by simp [Value.ownBlock]))) rfl k hlt
          obtain ⟨t1, t2, t3⟩ := HPL.out k hlt
          rw [← HQ.out] at t1
          have hes := endOf_succ hlt
          have hat := allL_take l k hlt
          generalize hpos : (l[k]).pos = pos at *
          generalize htx : (l[k]).text = tx at *
          generalize (l[k]).kind = kd at *
          generalize (l[k]).num = nm at *
          have HT3 := hid t3
          have HES := hid hes
          have HAT := hid hat
          clear hpos htx t3 hes hat
          have hi0 : (0 : Int) ≤ (k : Int) := by omega
          have hi1 : (k : Int) < (l.length : Int) := by omega
          go_wp2_with fail
          have hT := World.alloc_heap_new wr (.cells #[.int .i64 kd, .string tx, .int .i64 nm, .int .i64 (place s pos).1, .int .i64 (place s pos).2] 47)
          have hbW := hbr.alloc hbr.size (.cells #[.int .i64 kd, .string tx, .int .i64 nm, .int .i64 (place s pos).1, .int .i64 (place s pos).2] 47)
          have hsz : wr.heap.size < (wr.alloc (.cells #[.int .i64 kd, .string tx, .int .i64 nm, .int .i64 (place s pos).1, .int .i64 (place s pos).2] 47)).heap.size := by simp
          generalize wr.alloc (.cells #[.int .i64 kd, .string tx, .int .i64 nm, .int .i64 (place s pos).1, .int .i64 (place s pos).2] 47) = V at *
          have v1 : V.cell? ⟨wr.heap.size, 1, none⟩ = some (.string tx) := by unfold World.cell?; rw [hT]; rfl
          have v3 : V.cell? ⟨wr.heap.size, 3, none⟩ = some (.int .i64 (place s pos).1) := by unfold World.cell?; rw [hT]; rfl
          have v4 : V.cell? ⟨wr.heap.size, 4, none⟩ = some (.int .i64 (place s pos).2) := by unfold World.cell?; rw [hT]; rfl
          have HV1 := hid v1
          have HV3 := hid v3
          have HV4 := hid v4
          have hbi : BackIn V wr.heap.size V := ⟨Below.refl _ _, hsz⟩
          clear v1 v3 v4 hT x0 x1 x2 x3 x4 hsz hi0 hi1
          generalize wr.heap.size = T at *
          go_loopg [6] (s.size + 1) (fun gg a wr2 => ∃ p : Nat, p ≤ pos ∧ s.size + 1 ≤ p + gg ∧ a = .int .i64 p ∧ BackIn V T wr2)
          case atStart => exact ⟨q, t1, by omega, rfl, hbi⟩
          case round =>
            obtain ⟨p, hp, hgg, rfl, hk2⟩ := hrel
            have hcells : ∀ W', BackIn V T W' → W'.cell? ⟨T, 1, none⟩ = some (.string tx) ∧ W'.cell? ⟨T, 3, none⟩ = some (.int .i64 (place s pos).1) ∧ W'.cell? ⟨T, 4, none⟩ = some (.int .i64 (place s pos).2) := fun W' h =>
              ⟨(h.cell 1).trans HV1.out, (h.cell 3).trans HV3.out, (h.cell 4).trans HV4.out⟩
            have HC := hid hcells
            clear hcells
            by_cases hps : p < s.size
            · have hpl : ∀ W', BackIn V T W' → Calls Try.prog 30 #[.string s, .int .i64 p] W' fun r w' => r = .returned (.agg #[.int .i64 (place s p).1, .int .i64 (place s p).2]) ∧ BackIn V T w' := fun W' h =>
                (rplace_any s p W' (by omega) (by omega)).mono fun r w' ⟨h1, h2⟩ => ⟨h1, h.then h2⟩
              have HPC := hid hpl
              clear hpl
              have hd : decide ((p : Int) < (s.size : Int)) = true := by simp; omega
              have hp0 : (0 : Int) ≤ (p : Int) := by omega
              have hp1 : (p : Int) < (s.size : Int) := by omega
              obtain ⟨v1, v3, v4⟩ := HC.out _ hk2
              by_cases hpp : p < pos
              · have hne := place_ne (s := s) hpp
                have k4 := hk2.drew
                by_cases hne1 : (place s p).1 = (place s pos).1
                · have e1 : ((place s p).1 == (place s pos).1) = true := by simpa using hne1
                  have e2 : ((place s p).2 == (place s pos).2) = false := by simp; exact fun h => hne ⟨hne1, h⟩
                  clear hne hne1
                  go_wp2_with fail
                  go_region_held3 (fun w' => w'.cell? ⟨T, 1, none⟩ = some (.string tx) ∧ w'.cell? ⟨T, 3, none⟩ = some (.int .i64 (place s pos).1) ∧ w'.cell? ⟨T, 4, none⟩ = some (.int .i64 (place s pos).2))
                    (first | exact HC.out _ (by with_reducible assumption) | go_keep)
                    (first
                      | (go_at_call 30; refine (HPC.out _ (by with_reducible assumption)).mono ?_; rintro r w5 ⟨rfl, k5⟩))
                  all_goals
                    go_wp2_with fail
                    go_roundg (gk - 1)
                    case measure => omega
                    case rel => exact ⟨p + 1, by omega, by omega, by go_num, by with_reducible assumption⟩
                · have e1 : ((place s p).1 == (place s pos).1) = false := by simpa using hne1
                  clear hne hne1
                  go_wp2_with fail
                  go_region_held3 (fun w' => w'.cell? ⟨T, 1, none⟩ = some (.string tx) ∧ w'.cell? ⟨T, 3, none⟩ = some (.int .i64 (place s pos).1) ∧ w'.cell? ⟨T, 4, none⟩ = some (.int .i64 (place s pos).2))
                    (first | exact HC.out _ (by with_reducible assumption) | go_keep)
                    (first
                      | (go_at_call 30; refine (HPC.out _ (by with_reducible assumption)).mono ?_; rintro r w5 ⟨rfl, k5⟩))
                  all_goals
                    go_wp2_with fail
                    go_roundg (gk - 1)
                    case measure => omega
                    case rel => exact ⟨p + 1, by omega, by omega, by go_num, by with_reducible assumption⟩
              · obtain rfl : p = pos := by omega
                have k4 := hk2.drew
                obtain ⟨m, hm⟩ : ∃ m, m = p + tx.size := ⟨_, rfl⟩
                have HM := hid hm
                have hm1 : p + tx.size ≤ m := by omega
                have hm2 : m ≤ p + tx.size := by omega
                clear hm
                have hwr : IntKind.i64.wrap ((p : Int) + (tx.size : Int)) = (m : Int) := by rw [show (p : Int) + (tx.size : Int) = (m : Int) by omega]; exact IntWalk.i64_in _ (by omega)
                have hpm : (p : Int) ≤ (m : Int) := by omega
                have hms : (m : Int) ≤ (s.size : Int) := by omega
                obtain ⟨dd, hdd⟩ : ∃ dd, dd = s.size - p := ⟨_, rfl⟩
                have hws : IntKind.i64.wrap ((s.size : Int) - (p : Int)) = (dd : Int) := by rw [show (s.size : Int) - (p : Int) = (dd : Int) by omega]; exact IntWalk.i64_in _ (by omega)
                have hft : decide (dd < tx.size) = false := by simp; omega
                have hft2 : decide ((dd : Int) < (tx.size : Int)) = false := by simp; omega
                clear hdd
                have htt : ((s.extract p m).toList == tx.toList) = true := by rw [HM.out, ← HT3.out]; simp
                go_wp2_with fail
                go_region_held3 (fun w' => w'.cell? ⟨T, 1, none⟩ = some (.string tx) ∧ w'.cell? ⟨T, 3, none⟩ = some (.int .i64 (place s p).1) ∧ w'.cell? ⟨T, 4, none⟩ = some (.int .i64 (place s p).2))
                  (first | exact HC.out _ (by with_reducible assumption) | go_keep)
                  (first
                    | (go_at_call 30; refine (HPC.out _ (by with_reducible assumption)).mono ?_; rintro r w5 ⟨rfl, k5⟩))
                all_goals
                  go_wp2_with fail
                  have k6 := k5.drew
                  obtain ⟨u1, u3, u4⟩ := HC.out _ k5
                  clear v1 v3 v4 k4
                go_region_held3 (fun w' => w'.cell? ⟨T, 1, none⟩ = some (.string tx) ∧ w'.cell? ⟨T, 3, none⟩ = some (.int .i64 (place s p).1) ∧ w'.cell? ⟨T, 4, none⟩ = some (.int .i64 (place s p).2))
                  (first | exact HC.out _ (by with_reducible assumption) | go_keep)
                  (first
                    | (go_at_call 30; refine (HPC.out _ (by with_reducible assumption)).mono ?_; rintro r w7 ⟨rfl, k7⟩))
                all_goals
                  obtain ⟨u1, u3, u4⟩ := HC.out _ k7
                  have hbz := hbW.trans (k7.1.mono (by have := hbW.size; omega))
                  clear hwr hft hft2 hws htt
                  go_wp2_with fail
                  go_roundw
                  case rel =>
                    refine ⟨k + 1, m, X ++ tx ++ ⟨#[32]⟩, by omega, by go_num, by (first | rfl | (congr 1; omega)), rfl, by omega, ?_, ?_, ?_, hbz⟩
                    · rw [ByteArray.size_append, ByteArray.size_append]
                      show X.size + tx.size + 1 ≤ _
                      omega
                    · show _ = _
                      rw [HAT.out, ← HX.out]
                      simp
                    · show _ = _
                      rw [HES.out, HM.out]
                  case measure => simp [intOf]; omega
            · obtain rfl : p = pos := by omega
              have hfl : decide ((p : Int) < (s.size : Int)) = false := by simp; omega
              have hpl : ∀ W', BackIn V T W' → Calls Try.prog 30 #[.string s, .int .i64 p] W' fun r w' => r = .returned (.agg #[.int .i64 (place s p).1, .int .i64 (place s p).2]) ∧ BackIn V T w' := fun W' h =>
                (rplace_any s p W' (by omega) (by omega)).mono fun r w' ⟨h1, h2⟩ => ⟨h1, h.then h2⟩
              have HPC := hid hpl
              clear hpl
              have hp0 : (0 : Int) ≤ (p : Int) := by omega
              obtain ⟨v1, v3, v4⟩ := HC.out _ hk2
              obtain ⟨m, hm⟩ : ∃ m, m = p + tx.size := ⟨_, rfl⟩
              have HM := hid hm
              have hm1 : p + tx.size ≤ m := by omega
              have hm2 : m ≤ p + tx.size := by omega
              clear hm
              have hwr : IntKind.i64.wrap ((p : Int) + (tx.size : Int)) = (m : Int) := by rw [show (p : Int) + (tx.size : Int) = (m : Int) by omega]; exact IntWalk.i64_in _ (by omega)
              have hpm : (p : Int) ≤ (m : Int) := by omega
              have hms : (m : Int) ≤ (s.size : Int) := by omega
              obtain ⟨dd, hdd⟩ : ∃ dd, dd = s.size - p := ⟨_, rfl⟩
              have hws : IntKind.i64.wrap ((s.size : Int) - (p : Int)) = (dd : Int) := by rw [show (s.size : Int) - (p : Int) = (dd : Int) by omega]; exact IntWalk.i64_in _ (by omega)
              have hft : decide (dd < tx.size) = false := by simp; omega
              have hft2 : decide ((dd : Int) < (tx.size : Int)) = false := by simp; omega
              clear hdd
              have htt : ((s.extract p m).toList == tx.toList) = true := by rw [HM.out, ← HT3.out]; simp
              go_wp2_with fail
              go_quiet (fail)
              go_wp2_with fail
              have k5 := hk2.drewN nq
              generalize wr.drewN nq = wz at k5 ⊢
              have k6 := k5.drew
              obtain ⟨u1, u3, u4⟩ := HC.out _ k5
              clear v1 v3 v4
              go_region_held3 (fun w' => w'.cell? ⟨T, 1, none⟩ = some (.string tx) ∧ w'.cell? ⟨T, 3, none⟩ = some (.int .i64 (place s p).1) ∧ w'.cell? ⟨T, 4, none⟩ = some (.int .i64 (place s p).2))
                (first | exact HC.out _ (by with_reducible assumption) | go_keep)
                (first
                  | (go_at_call 30; refine (HPC.out _ (by with_reducible assumption)).mono ?_; rintro r w7 ⟨rfl, k7⟩))
              all_goals
                obtain ⟨u1, u3, u4⟩ := HC.out _ k7
                have hbz := hbW.trans (k7.1.mono (by have := hbW.size; omega))
                clear hwr hft hft2 hws htt
                go_wp2_with fail
                go_roundw
                case rel =>
                  refine ⟨k + 1, m, X ++ tx ++ ⟨#[32]⟩, by omega, by go_num, by (first | rfl | (congr 1; omega)), rfl, by omega, ?_, ?_, ?_, hbz⟩
                  · rw [ByteArray.size_append, ByteArray.size_append]
                    show X.size + tx.size + 1 ≤ _
                    omega
                  · show _ = _
                    rw [HAT.out, ← HX.out]
                    simp
                  · show _ = _
                    rw [HES.out, HM.out]
                case measure => simp [intOf]; omega
        · obtain rfl : k = l.length := by omega
          have hal : Hid (X.data.toList = allL l) := by show _ = _; rw [HX.out, List.take_length]
          have hbf := hb3.trans (hbr.mono hb3.size)
          have how := ho.kept (grownNone hbr) (.inr (by simp [Value.ownBlock]))
          clear HX HQ
          by_cases hbig : 16384 < X.size
          · go_wp2_with fail
            go_ret
            exact ⟨rfl, hbf⟩
          · obtain ⟨l2, hs2, hak⟩ := HBK.out X hal.out hbig
            have hln := hak.len
            have HS2 := hid hs2
            have HLN := hid hln
            clear hs2 hln
            go_wp2_with (first
              | (go_at_call 28; refine (scan_any X wr (by unfold maxLen; omega)).mono ?_; rintro r w3 ⟨hb4, hr4⟩; rw [HS2.out] at hr4; obtain ⟨g2, c2, rfl, hown4⟩ := hr4; rw [HLN.out] at hown4 ⊢; have hb5 := (hbf.trans (hb4.mono hbf.size)).alloc (hbf.trans (hb4.mono hbf.size)).size (.cells #[.int .i64 0, .int .i64 0, .int .i64 0] 43); have ho2 := hown4.alloc (.cells #[.int .i64 0, .int .i64 0, .int .i64 0] 43); have ho1 := (how.kept (grownNone hb4) (.inr (by simp [Value.ownBlock]))).alloc (.cells #[.int .i64 0, .int .i64 0, .int .i64 0] 43))
              | (go_at_call 31; refine (rsame11_any X s l2 l hak l.length _ _ g2 g c2 c _ HLN.out.symm rfl (by omega) ho2 ho1).mono ?_; rintro r w4 ⟨rfl, n4, rfl⟩))
            go_ret
            exact ⟨rfl, hb5.trans ⟨rfl, rfl, rfl, Nat.le_refl _, fun _ _ => rfl⟩⟩
end Go.Proofs.Ytiencmbbkbicnaa
