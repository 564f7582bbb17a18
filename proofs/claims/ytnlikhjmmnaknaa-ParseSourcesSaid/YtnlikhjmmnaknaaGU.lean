/-
  Texts of this claim, joined: SqL SqA SqB.
-/
import Derived.Test.YtnlikhjmmnaknaaGS
import Derived.Test.YtnlikhjmmnaknaaHRPar8
import Derived.Deep.CutRange
import Derived.Deep.RegionLaw
import Derived.Deep.LoopGhost
/-
  Variables that share a clock.
-/
namespace Go.Proofs.Ytnlikhjmmnaknaa
open Go.RowKit

/-- a row of conditions that is done -/
def lrowK (D : Nat → Prop) (S : Sl) (xs : List LitE) : Kp := ⟨D, fun w => S.fits xs.length ∧ SlAt 2 (LitIn D w) S.A xs⟩
theorem lrowK_ok (D : Nat → Prop) (S : Sl) (xs : List LitE) : (lrowK D S xs).Ok := fun _ _ _ _ hq hg hr => ⟨hq.1, hq.2.imp fun _ _ _ => LitIn.keep (stay_grown hg hr) fun _ h => h⟩
theorem Fr.lrow {P : Option Nat} {S : World → Prop} {w0 w : World} {ks : List Kp} {A : Option Addr} {n c : Nat} {xs : List LitE} (h : Fr P S w0 w (rowK w0 106 2 (.slice A n c) n (xs.flatMap LitE.cells) :: ks)) (hn : xs.length = n) (hs : ∀ x ∈ xs, x.name.size ≤ maxLen) : ∃ D', Fr P S w0 w (lrowK D' ⟨A, c⟩ xs :: ks) := by
  refine ⟨fun g => (Value.slice A n c).ownBlock = some g, h.turn1 (fun n h => h) ?_ (lrowK_ok _ _ _)⟩
  have h1 := sl_own LitE.cells 2 (fun _ => rfl) (D := fun g => (Value.slice A n c).ownBlock = some g) hn h.head.q (fun g hg => hg)
    (P := LitIn (fun g => (Value.slice A n c).ownBlock = some g) w) (fun b o j hj hD hc => ⟨hD, hs _ (List.getElem_mem hj), hc 0 (by omega), hc 1 (by omega)⟩)
  exact ⟨by rw [hn]; exact h1.1, h1.2⟩
/-- what a row's variables have besides, and a clock -/
def varsLK (D : Nat → Prop) (xs : List LVar) (S : Sl) (cs : List LitE) : Kp := ⟨D, fun w => (varsK D xs).Q w ∧ S.fits cs.length ∧ SlAt 2 (LitIn D w) S.A cs⟩
theorem varsLK_ok (D : Nat → Prop) (xs : List LVar) (S : Sl) (cs : List LitE) : (varsLK D xs S cs).Ok := fun w w' row hl hq hg hr => ⟨varsK_ok D xs w w' row hl hq.1 hg hr, lrowK_ok D S cs w w' row hl hq.2 hg hr⟩
theorem varsLK_of {D D' : Nat → Prop} {w : World} {xs : List LVar} {S : Sl} {cs : List LitE} (h : (varsK D xs).Q w) (h2 : (lrowK D' S cs).Q w) : (varsLK (fun n => D n ∨ D' n) xs S cs).Q w :=
  ⟨fun x hx => (h x hx).keep stay_rfl fun _ h => .inl h, h2.1, h2.2.imp fun _ _ _ => LitIn.keep stay_rfl fun _ h => .inr h⟩

section
variable (s : ByteArray) (l : List Tk)
/-- the loops behind what was read once -/
def PG (k : Nat) (g : List VarE) (m : Md) : List VarE × Md := if m.is l wSemi = true then portsGo s l k g (m.take l wSemi) else (g, m)
def LG (k : Nat) (g : List VarE) (m : Md) : List VarE × Md := if m.isBad = true ∨ m.is l wLet = true then (g, m) else localsGo s l k g m
def SG (k : Nat) (g : List ByteArray) (m : Md) : List ByteArray × Md := if m.is l wComma = true then strsP s l k g (m.take l wComma) else (g, m)
def EG (k : Nat) (g : List EqE) (m : Md) : List EqE × Md := if m.isBad = true ∨ m.is l wTel = true then (g, m.take l wTel) else eqsGo s l k g m
def NG (k : Nat) (g : List NodeE) (m : Md) : List NodeE × Md := if m.isBad = true ∨ m.last l = true then (g, m) else srcGo s l k g m
end
section
variable {s : ByteArray} {l : List Tk} {m : Md}
theorem ports_PG (k : Nat) (xs : List VarE) : portsGo s l (k + 1) xs m = PG s l k (groupP s l 8 xs m).1 (groupP s l 8 xs m).2 := by
  unfold portsGo PG
  split <;> rfl
theorem locals_LG (k : Nat) (xs : List VarE) : localsGo s l (k + 1) xs m = LG s l k (groupP s l 40 xs m).1 ((groupP s l 40 xs m).2.want s l wSemi) := rfl
theorem strs_SG (k : Nat) (xs : List ByteArray) : strsP s l (k + 1) xs m = SG s l k (xs ++ [m.text l]) (m.name s l (decide (8 ≤ xs.length))) := rfl
theorem eqs_EG (k : Nat) (xs : List EqE) : eqsGo s l (k + 1) xs m = EG s l k (xs ++ [(eqP s l xs.length m).1]) (eqP s l xs.length m).2 := rfl
theorem src_NG (k : Nat) (xs : List NodeE) {m0 : Md} (h0 : m0 = if xs.length = 16 ∧ m.is l wNode = true then m.err s l 3 else m) : srcGo s l (k + 1) xs m = NG s l k (xs ++ [(nodeP s l m0).1]) (nodeP s l m0).2 := by
  subst h0; rfl
theorem strong_came (hE : Ended l) (hi : ∀ i, m = .ok i → i < l.length) : m.seq (fun i => strongN s l (refN s l 63) (0 : Int).toNat i) = m.seq (exprN s l 64 0) := by
  cases m with
  | bad a b c => rfl
  | ok i =>
    show strongN s l (refN s l 63) (0 : Int).toNat i = exprN s l 64 0 i
    rw [expr_ref s hE 64]
    exact (if_pos ⟨hi i rfl, by omega, by omega⟩).symm
theorem lt_of_sm {P g : Nat} {w : World} (h : Sm s l P g w m) : ∀ i, m = .ok i → i < l.length := fun i hi => by subst hi; exact PSt.lt h
end
/-- the reference's expression at the first level, in any state -/
theorem rexpr_m {s : ByteArray} {l : List Tk} {P g : Nat} (hE : Ended l) (hK : TkOk s l) {m : Md} {w : World} (h : Sm s l P g w m) :
    Calls Try.prog 17 #[.pointer (some ⟨P, 0, none⟩), .int .i64 0, .int .i64 1] w fun r w' => ∃ e A c t m', r = .returned (e.val A c) ∧ Got s l P g w (m.seq (exprN s l 64 0)) 30 w' e A c t m' := by
  cases m with
  | bad a b c => exact rstrong_bad h
  | ok k =>
    refine (strong_level (L := 1) (L1 := 65 - ((63 : Nat) : Int)) hE hK (IntWalk.i64_in _ (by omega)) (rnext_any hE hK 63 (by omega)) (expr_ref s hE 63 ▸ expr_adv hE 63) 0 (by omega) (by omega) k w h).mono ?_
    rintro r w3 ⟨e, A, c, t, m', rfl, G⟩
    refine ⟨e, A, c, t, m', rfl, G.eq ?_⟩
    show _ = exprN s l 64 0 k
    rw [expr_ref s hE 64]
    exact (if_pos ⟨PSt.lt h, by omega, by omega⟩).symm
end Go.Proofs.Ytnlikhjmmnaknaa
/-
  The walk of the reference's Group (printed by gen_p5.py).
-/
namespace Go.Proofs.Ytnlikhjmmnaknaa
open Go.RowKit


set_option maxHeartbeats 4000000 in
set_option maxRecDepth 100000 in
theorem rgroup_m {s : ByteArray} {l : List Tk} {P g : Nat} (hE : Ended l) (hK : TkOk s l) (most : Nat) (hmo : most ≤ 40) {w0 w : World} {m : Md} {ks : List Kp} {A : Option Addr} {n c : Nat} {xs : List LVar} {D : Nat → Prop} (hxn : xs.length = n) (hn : n ≤ most) (f : PF s l P g w0 m w (rowK w0 96 5 (.slice A n c) n (xs.flatMap LVar.cells) :: varsK D xs :: ks)) :
    Calls Try.prog 54 #[.pointer (some ⟨P, 0, none⟩), .slice A n c, .int .i64 most] w fun r w' => ∃ (A' : Option Addr) (n' c' : Nat) (xs' : List LVar) (D' : Nat → Prop) (m' : Md), r = .returned (.slice A' n' c') ∧ xs'.length = n' ∧ n' ≤ 50 ∧ PF s l P g w0 m' w' (rowK w0 96 5 (.slice A' n' c') n' (xs'.flatMap LVar.cells) :: varsK D' xs' :: ks) ∧ m' = (groupP s l most (xs.map (·.v)) m).2 ∧ (∀ j, m' = .ok j → xs'.map (·.v) = (groupP s l most (xs.map (·.v)) m).1) := by
  obtain ⟨iv, zv, hiiv, hizv, hisv, hibv, hicv⟩ := info_Var
  obtain ⟨il, zl, hiil, hizl, hisl, hibl, hicl⟩ := info_Lit
  go_enter Try.func54, Try.ntmps54
  go_wp2_with fail
  have hml : (xs.map (·.v)).length = n := by simpa using hxn
  obtain ⟨q0, hq0⟩ : ∃ q0, q0 = namesP s l most (most + 1 - (xs.map (·.v)).length) (xs.map (·.v)) m := ⟨_, rfl⟩
  go_loopw [1] (fun v wr => ∃ (A : Option Addr) (n1 c : Nat) (ys : List LVar) (m1 : Md), v = .slice A n1 c ∧ ys.length = n1 ∧ n ≤ n1 ∧ n1 ≤ most ∧ PF s l P g w0 m1 wr (rowK w0 96 5 (.slice A n1 c) n1 (ys.flatMap LVar.cells) :: varsK D ys :: ks) ∧ Hid (q0 = namesP s l most (most + 1 - n1) (ys.map (·.v)) m1)) (fun v _ => most + 1 - lenOf v)
  case atStart => exact ⟨A, n, c, xs, m, rfl, hxn, Nat.le_refl _, hn, f, hid (by rw [hq0, hml])⟩
  case round =>
    clear f
    obtain ⟨A, n1, c, ys, m1, rfl, hyn, hn1, hn2, f_0, hq⟩ := hrel
    have hq0H := hid hq0
    clear hq0
    have hyl : (ys.map (·.v)).length = n1 := by simp [hyn]
    obtain ⟨er, x0, x1, x2⟩ := f_0.err
    by_cases hb : m1.isBad = true
    · have x3 : (er == 0) = false := by rw [x2, hb]; rfl
      have hnz : q0.2 = m1 := by
        rw [hq.out, show most + 1 - n1 = (most - n1) + 1 by omega]
        have := names_bad (s := s) (l := l) (most := most) (k := most - n1) (ys := ys.map (·.v)) (m := m1) (by rw [(bad_keep hb).2.2.1]; exact hb)
        rw [this]
        exact (bad_keep hb).2.2.1 _
      have hnv : ∀ j, m1 = .ok j → ys.map (·.v) = q0.1 := fun j hj => by rw [hj] at hb; cases hb
      have hnzH := hid hnz
      have hnvH := hid hnv
      have hzn := hyn
      clear hnz hnv hq x1 x2 hb
      go_upto_region 6 with fail
      clear x0 x3
      go_wp2_with fail
      refine (rwant_m hE f_0.sm ⟨#[58]⟩).mono ?_
      rintro r W1 ⟨rfl, t_1, q_1⟩
      have f_1 := f_0.turn t_1 q_1
      clear f_0 t_1 q_1
      obtain ⟨m5, hm5⟩ : ∃ x, x = m1.want s l wColon := ⟨_, rfl⟩
      replace hm5 := hid hm5
      rw [show m1.want s l (⟨#[58]⟩ : ByteArray).data.toList = m5 from hm5.out.symm] at f_1
      go_wp2_with fail
      refine (rtake_m hE f_1.sm ⟨#[105, 110, 116]⟩).mono ?_
      rintro r W2 ⟨rfl, t_2, q_2⟩
      have f_2 := f_1.turn t_2 q_2
      clear f_1 t_2 q_2
      obtain ⟨ib, hib⟩ : ∃ x, x = m5.is l wInt := ⟨_, rfl⟩
      have hibH := hid hib.symm
      rw [show m5.is l (⟨#[105, 110, 116]⟩ : ByteArray).data.toList = ib from hib.symm]
      clear hib
      go_upto_if 49 with fail
      go_cut [9] from 50 to 51 (fun kv wx => kv = .int .i64 (kindP s l m5).1 ∧ PF s l P g w0 (kindP s l m5).2 wx (rowK w0 96 5 (.slice A n1 c) n1 (ys.flatMap LVar.cells) :: varsK D ys :: ks))
      case first =>
        cases ib with
        | true =>
          have hkp := hid (show kindP s l m5 = (1, m5.take l wInt) from if_pos hibH.out)
          go_wp2_with fail
          go_meet
          case rel => exact ⟨by rw [hkp.out], by rw [hkp.out]; exact f_2⟩
        | false =>
          have hkp := hid (show kindP s l m5 = (2, m5.want s l wBool) from if_neg (by rw [hibH.out]; simp))
          rw [take_not (show m5.is l (⟨#[105, 110, 116]⟩ : ByteArray).data.toList = false from hibH.out)] at f_2
          go_wp2_with fail
          refine (rwant_m hE f_2.sm ⟨#[98, 111, 111, 108]⟩).mono ?_
          rintro r W3 ⟨rfl, t_3, q_3⟩
          have f_3 := f_2.turn t_3 q_3
          clear f_2 t_3 q_3
          go_wp2_with fail
          go_meet
          case rel => exact ⟨by rw [hkp.out], by rw [hkp.out]; exact f_3⟩
      case rest =>
        clear f_2
        obtain ⟨rfl, f_40⟩ := hcut
        have hkd : I64 (kindP s l m5).1 := by rcases kind_in (s := s) (l := l) (m := m5) with h | h <;> rw [h] <;> unfold I64 <;> omega
        obtain ⟨kd, hkd2⟩ : ∃ x, x = (kindP s l m5).1 := ⟨_, rfl⟩
        obtain ⟨mk, hmk⟩ : ∃ x, x = (kindP s l m5).2 := ⟨_, rfl⟩
        have hkdH := hid hkd2
        have hmkH := hid hmk
        rw [← hkd2] at hkd ⊢
        rw [← hmk] at f_40
        clear hkd2 hmk
        obtain ⟨L0, hL0⟩ : ∃ x, x = litsP s l 4 [] mk := ⟨_, rfl⟩
        have hL0H := hid hL0
        clear hL0
        have fs := f_40.nilRow 106 2
        clear f_40
        go_wp2_with fail
        go_loopw [10] (fun v wr => ∃ (Ac : Option Addr) (nc cc : Nat) (cs : List LitE) (m1 : Md), v = .slice Ac nc cc ∧ cs.length = nc ∧ nc ≤ 5 ∧ PF s l P g w0 m1 wr (rowK w0 106 2 (.slice Ac nc cc) nc (cs.flatMap LitE.cells) :: rowK w0 96 5 (.slice A n1 c) n1 (ys.flatMap LVar.cells) :: varsK D ys :: ks) ∧ Hid ((m1.isBad = false → nc ≤ 4 ∧ L0 = litsP s l (4 - nc) cs m1) ∧ (m1.isBad = true → L0.2 = m1)) ∧ (∀ x ∈ cs, x.name.size ≤ maxLen)) (fun v _ => 6 - lenOf v)
        case atStart => exact ⟨none, 0, 0, [], mk, rfl, rfl, by omega, fs, hid ⟨fun _ => ⟨by omega, hL0H.out⟩, fun h => by rw [hL0H.out, lits_bad h]⟩, by simp⟩
        case round =>
          clear fs
          obtain ⟨Ac, nc, cc, cs, m6, rfl, hcn, hc5, f_50, hlq, hcl⟩ := hrel
          by_cases h0 : m6.is l (⟨#[119, 104, 101, 110]⟩ : ByteArray).data.toList = true
          · obtain ⟨i, rfl, hi⟩ := is_yes h0
            obtain ⟨hc4, hlx⟩ := hlq.out.1 rfl
            have hlxH := hid hlx
            clear hlx hlq
            go_wp2_with fail
            refine (ris_m f_50.sm ⟨#[119, 104, 101, 110]⟩).mono ?_
            rintro r W51 ⟨rfl, t_51, q_51⟩
            have f_51 := f_50.turn t_51 q_51
            clear f_50 t_51 q_51
            rw [h0]
            obtain ⟨m7, hm7⟩ : ∃ x, x = if nc = 4 then (Md.ok i).err s l 3 else .ok i := ⟨_, rfl⟩
            have hm7H := hid hm7
            clear hm7
            go_upto_if 56 with fail
            obtain ⟨j, crd, ⟨hlt_j, hj_j, hx1, hx2⟩, ⟨c0, c1, k0, k1, k2, k3, k4⟩, ⟨d0, d1, e0, e1, e2, e3, e4⟩⟩ := f_51.reads (.cells #[.int .i64 0, .int .i64 0] 25)
            obtain rfl : j = i := hj_j i rfl
            go_cut [56] from 57 to 69 (fun _ wx => PF s l P g w0 m7 wx (rowK w0 106 2 (.slice Ac nc cc) nc (cs.flatMap LitE.cells) :: rowK w0 96 5 (.slice A n1 c) n1 (ys.flatMap LVar.cells) :: varsK D ys :: ks))
            case first =>
              by_cases h4 : nc = 4
              · have h4b : ((nc : Int) == 4) = true := by simp [h4]
                have hm := hm7H.out
                rw [if_pos h4] at hm
                clear h4 hc4 hc5
                have hsH := hid f_51
                go_wp2_with fail
                go_region_with (go_at_call 18; (with_reducible refine (rfail_m (Fr.sm (Fr.drew hsH.out)) (e := 3) (by decide) _ _).mono ?_); rintro r W_r ⟨rfl, t_r, q_r⟩; have f_r := hid (Fr.turn (Fr.drew hsH.out) t_r q_r))
                all_goals
                  go_wp2_with fail
                  go_meet
                  case rel => exact hm ▸ f_r.out
              · have h4b : ((nc : Int) == 4) = false := by simp; omega
                have hm := hm7H.out
                rw [if_neg h4] at hm
                go_wp2_with fail
                go_meet
                case rel => exact hm ▸ f_51
            case rest =>
              clear c0 c1 k0 k1 k2 k3 k4 d0 d1 e0 e1 e2 e3 e4 f_51
              have f_60 := hcut
              clear hcut
              go_wp2_with fail
              refine (rwant_m hE f_60.sm ⟨#[119, 104, 101, 110]⟩).mono ?_
              rintro r W61 ⟨rfl, t_61, q_61⟩
              have f_61 := f_60.turn t_61 q_61
              clear f_60 t_61 q_61
              obtain ⟨m8, hm8⟩ : ∃ x, x = m7.want s l wWhen := ⟨_, rfl⟩
              replace hm8 := hid hm8
              rw [show m7.want s l (⟨#[119, 104, 101, 110]⟩ : ByteArray).data.toList = m8 from hm8.out.symm] at f_61
              go_wp2_with fail
              refine (rtake_m hE f_61.sm ⟨#[110, 111, 116]⟩).mono ?_
              rintro r W62 ⟨rfl, t_62, q_62⟩
              have f_62 := f_61.turn t_62 q_62
              clear f_61 t_62 q_62
              obtain ⟨ng, hng⟩ : ∃ x, x = m8.is l wNot := ⟨_, rfl⟩
              have hngH := hid hng
              rw [show m8.is l (⟨#[110, 111, 116]⟩ : ByteArray).data.toList = ng from hng.symm]
              clear hng
              obtain ⟨m9, hm9⟩ : ∃ x, x = m8.take l wNot := ⟨_, rfl⟩
              replace hm9 := hid hm9
              rw [show m8.take l (⟨#[110, 111, 116]⟩ : ByteArray).data.toList = m9 from hm9.out.symm] at f_62
              go_wp2_with fail
              refine (rname_m hE f_62.sm true).mono ?_
              rintro r W63 ⟨k, hlt_k, hj_k, rfl, t_63, q_63⟩
              have f_63 := f_62.turn t_63 q_63
              clear f_62 t_63 q_63
              obtain ⟨m10, hm10⟩ : ∃ x, x = m9.name s l false := ⟨_, rfl⟩
              replace hm10 := hid hm10
              rw [show m9.name s l (!true) = m10 from hm10.out.symm] at f_63
              go_wp2_with (at_builtin; refine Held.stop ?_)
              refine Held.go ?_
              have f_64 := f_63.alloc (.cells #[.string (tkN l k).text, .bool ng] 106)
              have z_64 := alloc_size W63 (.cells #[.string (tkN l k).text, .bool ng] 106)
              clear f_63
              generalize W63.heap.size = B at *
              generalize W63.alloc (.cells #[.string (tkN l k).text, .bool ng] 106) = W64 at *
              clear z_64
              refine Fr.wpApp (f_64.rot1.rot1) rfl _ _ _ rfl Try.underlying94 hiil hizl hisl hibl hicl (by decide) rfl rfl rfl lit_one (by decide) (by unfold maxLen; omega) (by omega) ?_
              intro GC capC W65 f_65
              clear f_64
              have fin := f_65.rot1.tail
              have hr : cs.flatMap LitE.cells ++ (#[.string (tkN l k).text, .bool ng] : Array Value).toList = (cs ++ [LitE.mk (tkN l k).text ng]).flatMap LitE.cells := by
                simp [LitE.cells]
              rw [hr] at fin
              clear hr f_65
              go_wp2_with fail
              go_roundw
              case rel =>
                refine ⟨_, nc + 1, _, cs ++ [LitE.mk (tkN l k).text ng], m10, rfl, by simp [hcn], by omega, fin, hid ⟨fun hb10 => ?_, fun hb10 => ?_⟩, fun x hx => by
                  rcases List.mem_append.1 hx with hx | hx
                  · exact hcl x hx
                  · obtain rfl : x = _ := by simpa using hx
                    exact (hK k).2.2.1⟩
                · obtain ⟨j10, h10⟩ := not_bad hb10
                  obtain ⟨j9, h9, _⟩ := name_ok (hm10.out.symm.trans h10)
                  have hlt4 : nc ≠ 4 := fun h4 => by
                    have hm := hm7H.out
                    rw [if_pos h4] at hm
                    obtain ⟨j9, h9⟩ : ∃ x, m9 = .ok x := ⟨j9, h9⟩
                    obtain ⟨j8, h8⟩ := take_ok (hm9.out.symm.trans h9)
                    obtain ⟨j7, h7⟩ := want_ok (hm8.out.symm.trans h8)
                    exact err_ok (hm.symm.trans h7)
                  have hm := hm7H.out
                  rw [if_neg hlt4] at hm
                  have h8 : m8 = (Md.ok j).take l wWhen := by rw [hm8.out, hm]; exact want_take h0
                  have ht : ((Md.ok j).take l wWhen).take l wNot = m9 := by rw [← h8, hm9.out]
                  refine ⟨by omega, ?_⟩
                  rw [hlxH.out, show 4 - nc = (4 - (nc + 1)) + 1 by omega]
                  have hs : litsP s l ((4 - (nc + 1)) + 1) cs (.ok j) = litsP s l (4 - (nc + 1)) (cs ++ [⟨(((Md.ok j).take l wWhen).take l wNot).text l, ((Md.ok j).take l wWhen).is l wNot⟩]) ((((Md.ok j).take l wWhen).take l wNot).name s l false) := if_pos h0
                  rw [hs, ht, ← h8, ← hm10.out, ← hngH.out, h9]
                  obtain rfl := hj_k j9 h9
                  rfl
                · by_cases h4 : nc = 4
                  · have hm := hm7H.out
                    rw [if_pos h4] at hm
                    have hb7 : m7.isBad = true := by rw [hm]; rfl
                    have h8 : m8 = m7 := hm8.out.trans ((bad_keep hb7).2.1 _)
                    have h9 : m9 = m7 := by rw [hm9.out, h8]; exact (bad_keep (s := s) hb7).1 _
                    have h10 : m10 = m7 := by rw [hm10.out, h9]; exact (bad_keep hb7).2.2.1 _
                    rw [h10, hm, hlxH.out, h4]
                    exact congrArg Prod.snd (show litsP s l 0 cs (.ok j) = (cs, (Md.ok j).err s l 3) from if_pos h0)
                  · have hm := hm7H.out
                    rw [if_neg h4] at hm
                    have h8 : m8 = (Md.ok j).take l wWhen := by rw [hm8.out, hm]; exact want_take h0
                    have hs : litsP s l ((4 - (nc + 1)) + 1) cs (.ok j) = litsP s l (4 - (nc + 1)) (cs ++ [⟨(((Md.ok j).take l wWhen).take l wNot).text l, ((Md.ok j).take l wWhen).is l wNot⟩]) ((((Md.ok j).take l wWhen).take l wNot).name s l false) := if_pos h0
                    rw [hlxH.out, show 4 - nc = (4 - (nc + 1)) + 1 by omega, hs, ← h8, ← hm9.out, ← hm10.out, lits_bad hb10]
              case measure => simp [lenOf]; omega
          · have h0 := eq_false_of_ne_true h0
            go_wp2_with fail
            refine (ris_m f_50.sm ⟨#[119, 104, 101, 110]⟩).mono ?_
            rintro r W51 ⟨rfl, t_51, q_51⟩
            have f_51 := f_50.turn t_51 q_51
            clear f_50 t_51 q_51
            rw [h0]
            have hL2 : L0.2 = m6 ∧ ∀ j, m6 = .ok j → cs = L0.1 := by
              cases hb6 : m6.isBad with
              | true => exact ⟨hlq.out.2 hb6, fun j hj => by rw [hj] at hb6; cases hb6⟩
              | false =>
                have h := (hlq.out.1 hb6).2
                have h2 : L0 = (cs, m6) := by
                  rw [h]
                  cases hk : 4 - nc <;> exact if_neg (by rw [show m6.is l wWhen = false from h0]; simp)
                exact ⟨by rw [h2], fun _ _ => by rw [h2]⟩
            have hgr : groupP s l most (xs.map (·.v)) m = (setVars n q0.1 (kindP s l (q0.2.want s l wColon)).1 (litsP s l 4 [] (kindP s l (q0.2.want s l wColon)).2).1, (litsP s l 4 [] (kindP s l (q0.2.want s l wColon)).2).2) := by
              unfold groupP
              rw [← hq0H.out, hml]
            rw [hnzH.out, ← hm5.out, ← hkdH.out, ← hmkH.out, ← hL0H.out] at hgr
            have hmg : m6 = (groupP s l most (xs.map (·.v)) m).2 := by rw [hgr]; exact hL2.1.symm
            have hvg : ∀ j, m6 = .ok j → setVars n (ys.map (·.v)) kd cs = (groupP s l most (xs.map (·.v)) m).1 := fun j hj => by
              have h1 := hL2.2 j hj
              have h2 := hL2.1.trans hj
              rw [hL0H.out] at h2
              obtain ⟨j3, h3⟩ := lits_ok 4 [] h2
              obtain ⟨j4, h4⟩ := kind_ok (hmkH.out.symm.trans h3)
              obtain ⟨j5, h5⟩ := want_ok (hm5.out.symm.trans h4)
              rw [hgr, h1, hnvH.out j5 h5]
            have hmgH := hid hmg
            have hvgH := hid hvg
            clear hmg hvg hgr hL2 hlq
            obtain ⟨D3, fl⟩ := Fr.lrow f_51 hcn hcl
            clear f_51
            have fs := (Fr.fuse (x := varsLK (fun n => D n ∨ D3 n) ys ⟨Ac, cc⟩ cs) fl.rot2 (fun _ h => h) (varsLK_of fl.rot2.head.q fl.head.q) (varsLK_ok _ _ _ _)).rot1
            clear fl
            go_wp2_with fail
            go_loopw [12] (fun i wr => ∃ (j : Nat) (us : List LVar), i = .int .i64 j ∧ n ≤ j ∧ j ≤ n1 ∧ us.length = n1 ∧ PF s l P g w0 m6 wr (rowK w0 96 5 (.slice A n1 c) n1 (us.flatMap LVar.cells) :: varsLK (fun n => D n ∨ D3 n) us ⟨Ac, cc⟩ cs :: ks) ∧ Hid (SetTo n j ys us kd cs)) (fun i _ => n1 - (intOf i).toNat)
            case atStart => exact ⟨n, ys, rfl, Nat.le_refl _, by omega, hzn, fs, SetTo.start _ _ _ _⟩
            case round =>
              clear fs
              obtain ⟨j, us, rfl, hj1, hj2, hun, f_90, hset⟩ := hrel
              by_cases hlt : j < n1
              · have hj0 : (0 : Int) ≤ (j : Int) := by omega
                have hj3 : (j : Int) < ((n1 : Nat) : Int) := by omega
                obtain ⟨G, rfl, -⟩ := vrow_at f_90.head.q hun hlt
                obtain ⟨hx1, hx2, hx3, hx4⟩ := vrow_in f_90.head.q hun hlt
                have f_91 := f_90
                go_wp2_with fail
                have fq := Fr.setRow (Fr.setRow f_91 (j * 5 + 1) (.int .i64 kd)) (j * 5 + 2) (.slice Ac nc cc)
                rw [vrow_set hlt hun kd cs Ac cc nc hcn] at fq
                clear f_90 f_91
                have fq := (fq.rot1.turn1 (x := varsLK (fun n => D n ∨ D3 n) (us.set j ⟨{ (us[j]'(by omega)).v with type := kd, clock := cs }, ⟨Ac, cc⟩⟩) ⟨Ac, cc⟩ cs) (fun n h => h) ⟨vars_set fq.rot1.head.q.1 (fun _ h => h) hkd fq.rot1.head.q.2.1 fq.rot1.head.q.2.2, fq.rot1.head.q.2⟩ (varsLK_ok _ _ _ _)).rot1
                go_roundw
                case rel => exact ⟨j + 1, _, by go_num, by omega, by omega, by simpa using hun, fq, SetTo.step hset.out hun hlt hj1⟩
                case measure => simp [intOf]; omega
              · have hj4 : j = n1 := by omega
                subst hj4
                go_wp2_with fail
                have f_99 := (f_90.rot1.turn1 (x := varsK (fun n => D n ∨ D3 n) us) (fun _ h => h) f_90.rot1.head.q.1 (varsK_ok _ _)).rot1
                go_ret
                exact ⟨_, _, _, us, _, m6, rfl, hun, by omega, f_99, hmgH.out, fun i hi => by rw [← hvgH.out i hi]; exact hset.out.all hzn hun⟩
    · have hb := eq_false_of_ne_true hb
      have x3 : (er == 0) = true := by rw [x2, hb]; rfl
      obtain ⟨i, rfl⟩ := not_bad hb
      clear x1 x2 hb
      skip
      go_upto_region 3 with fail
      obtain ⟨k, crd, ⟨hlt_k, hj_k, hx1, hx2⟩, ⟨c0, c1, k0, k1, k2, k3, k4⟩, ⟨d0, d1, e0, e1, e2, e3, e4⟩⟩ := f_0.reads (.cells #[.int .i64 0, .int .i64 0] 25)
      obtain rfl : k = i := hj_k i rfl
      go_cut [8] from 20 to 30 (fun p wx => ∃ T1, p = .pointer (some ⟨T1, 0, none⟩) ∧ PF s l P g w0 (.ok k) wx (blkK T1 (.cells #[.int .i64 (lnN s l k), .int .i64 (clN s l k)] 25 (0, 0)) :: rowK w0 96 5 (.slice A n1 c) n1 (ys.flatMap LVar.cells) :: varsK D ys :: ks))
      case first =>
        go_region
        all_goals
          go_wp2_with fail
          go_meet
          case rel => exact ⟨_, rfl, (Fr.alloc f_0 (.cells #[.int .i64 (lnN s l k), .int .i64 (clN s l k)] 25)).drew⟩
      case rest =>
        obtain ⟨T, rfl, f_1⟩ := hcut
        clear c0 c1 k0 k1 k2 k3 k4 d0 d1 e0 e1 e2 e3 e4 f_0
        clear x0 x3
        obtain ⟨m2, hm2⟩ : ∃ x, x = (Md.ok k).name s l (decide (most ≤ n1)) := ⟨_, rfl⟩
        replace hm2 := hid hm2
        have hnd : (!decide (n1 < most)) = decide (most ≤ n1) := by
          rw [← decide_not]
          exact decide_eq_decide.2 (by omega)
        go_upto_region 4 with fail
        go_cut [1] from 31 to 41 (fun v wx => ∃ (GE capE : Nat), v = .slice (some ⟨GE, 0, none⟩) (n1 + 1) capE ∧ PF s l P g w0 m2 wx (rowK w0 96 5 (.slice (some ⟨GE, 0, none⟩) (n1 + 1) capE) (n1 + 1) ((ys ++ [(⟨⟨(tkN l k).text, 0, [], lnN s l k, clN s l k⟩, ⟨none, 0⟩⟩ : LVar)]).flatMap LVar.cells) :: varsK D (ys ++ [(⟨⟨(tkN l k).text, 0, [], lnN s l k, clN s l k⟩, ⟨none, 0⟩⟩ : LVar)]) :: ks))
        case first =>
          have f_s := f_1.rot2.rot2
          have hsH := hid f_s
          obtain ⟨v0, v1, -⟩ := blk2 f_s.rot2.blk
          go_region_law (first | (refine Fr.stepApp ((f_r.alloc (.cells #[.string (tkN l k).text, .int .i64 0, .slice none 0 0, .int .i64 (lnN s l k), .int .i64 (clN s l k)] 96))) rfl _ _ _ rfl Try.underlying59 hiiv hizv hisv hibv hicv (by decide) rfl rfl rfl var_one (by decide) (by unfold maxLen; omega) (by omega) ?_; intro GE capE W_a f_a; have f_z := hid f_a) | (go_simp; go_at_call 46; (with_reducible refine (rname_m hE (Fr.sm (Fr.drew hsH.out)) _).mono ?_); rintro r W_r ⟨k2, hlt2, hj2, rfl, t_r, q_r⟩; obtain rfl : k = k2 := (hj2 k rfl).symm; rw [hnd, ← hm2.out] at t_r; have f_r := Fr.turn (Fr.drew hsH.out) t_r q_r; obtain ⟨u0, u1, -⟩ := blk2 f_r.rot2.blk))
          all_goals
            go_wp2_with fail
            go_meet
            case rel =>
              refine ⟨GE, capE, rfl, ?_⟩
              have f_q := f_z.out.rot1.tail
              have hr : ys.flatMap LVar.cells ++ (#[.string (tkN l k).text, .int .i64 0, .slice none 0 0, .int .i64 (lnN s l k), .int .i64 (clN s l k)] : Array Value).toList = (ys ++ [(⟨⟨(tkN l k).text, 0, [], lnN s l k, clN s l k⟩, ⟨none, 0⟩⟩ : LVar)]).flatMap LVar.cells := by
                simp [LVar.cells, Sl.v]
              rw [hr] at f_q
              have f_q := f_q.rot2.tail
              first | exact (f_q.rot1.turn1 (x := varsK D (ys ++ [(⟨⟨(tkN l k).text, 0, [], lnN s l k, clN s l k⟩, ⟨none, 0⟩⟩ : LVar)])) (fun n h => h) (vars_push f_q.rot1.head.q (hK k)) (varsK_ok D _)).rot1 | exact (f_q.drew.rot1.turn1 (x := varsK D (ys ++ [(⟨⟨(tkN l k).text, 0, [], lnN s l k, clN s l k⟩, ⟨none, 0⟩⟩ : LVar)])) (fun n h => h) (vars_push f_q.drew.rot1.head.q (hK k)) (varsK_ok D _)).rot1
        case rest =>
          clear f_1 hnd
          obtain ⟨GE, capE, rfl, f_20⟩ := hcut
          have hzn : (ys ++ [(⟨⟨(tkN l k).text, 0, [], lnN s l k, clN s l k⟩, ⟨none, 0⟩⟩ : LVar)]).length = n1 + 1 := by simp [hyn]
          have hzm : (ys ++ [(⟨⟨(tkN l k).text, 0, [], lnN s l k, clN s l k⟩, ⟨none, 0⟩⟩ : LVar)]).map (·.v) = ys.map (·.v) ++ [⟨(Md.ok k).text l, 0, [], (Md.ok k).ln s l, (Md.ok k).cl s l⟩] := by simp [Md.text, Md.ln, Md.cl]
          generalize (ys ++ [(⟨⟨(tkN l k).text, 0, [], lnN s l k, clN s l k⟩, ⟨none, 0⟩⟩ : LVar)]) = zs at *
          go_wp2_with fail
          by_cases h0 : m2.is l (⟨#[44]⟩ : ByteArray).data.toList = true
          · obtain ⟨i2, rfl, hi2⟩ := is_yes h0
            have hful : n1 < most := by have := name_full hm2.out.symm; simpa using this
            have hnx : q0 = namesP s l most (most + 1 - (n1 + 1)) (zs.map (·.v)) ((Md.ok i2).take l wComma) := by
              rw [hzm, hq.out, show most + 1 - n1 = (most + 1 - (n1 + 1)) + 1 by omega, hm2.out, ← hyl]
              exact if_pos (by rw [hyl, ← hm2.out]; exact h0)
            have hnxH := hid hnx
            clear hnx hq
            refine (rtake_m hE f_20.sm ⟨#[44]⟩).mono ?_
            rintro r W21 ⟨rfl, t_21, q_21⟩
            have f_21 := f_20.turn t_21 q_21
            clear f_20 t_21 q_21
            rw [h0]
            go_wp2_with fail
            go_roundw
            case rel => exact ⟨_, n1 + 1, _, zs, _, rfl, hzn, by omega, by omega, f_21, hnxH⟩
            case measure => simp [lenOf]; omega
          · have h0 := eq_false_of_ne_true h0
            have hnx : q0 = (zs.map (·.v), m2) := by
              rw [hzm, hq.out, show most + 1 - n1 = (most - n1) + 1 by omega, hm2.out, ← hyl]
              exact if_neg (by rw [hyl, ← hm2.out, show m2.is l wComma = false from h0]; simp)
            have hnzH := hid (show q0.2 = m2 by rw [hnx])
            have hnvH := hid (show ∀ j, m2 = .ok j → zs.map (·.v) = q0.1 from fun _ _ => by rw [hnx])
            clear hnx hq
            refine (rtake_m hE f_20.sm ⟨#[44]⟩).mono ?_
            rintro r W21 ⟨rfl, t_21, q_21⟩
            have f_21 := f_20.turn t_21 q_21
            clear f_20 t_21 q_21
            rw [h0]
            rw [take_not h0] at f_21
            generalize hn3 : n1 + 1 = n2 at *
            go_wp2_with fail
            refine (rwant_m hE f_21.sm ⟨#[58]⟩).mono ?_
            rintro r W22 ⟨rfl, t_22, q_22⟩
            have f_22 := f_21.turn t_22 q_22
            clear f_21 t_22 q_22
            obtain ⟨m5, hm5⟩ : ∃ x, x = m2.want s l wColon := ⟨_, rfl⟩
            replace hm5 := hid hm5
            rw [show m2.want s l (⟨#[58]⟩ : ByteArray).data.toList = m5 from hm5.out.symm] at f_22
            go_wp2_with fail
            refine (rtake_m hE f_22.sm ⟨#[105, 110, 116]⟩).mono ?_
            rintro r W23 ⟨rfl, t_23, q_23⟩
            have f_23 := f_22.turn t_23 q_23
            clear f_22 t_23 q_23
            obtain ⟨ib, hib⟩ : ∃ x, x = m5.is l wInt := ⟨_, rfl⟩
            have hibH := hid hib.symm
            rw [show m5.is l (⟨#[105, 110, 116]⟩ : ByteArray).data.toList = ib from hib.symm]
            clear hib
            go_upto_if 49 with fail
            go_cut [9] from 50 to 51 (fun kv wx => kv = .int .i64 (kindP s l m5).1 ∧ PF s l P g w0 (kindP s l m5).2 wx (rowK w0 96 5 (.slice (some ⟨GE, 0, none⟩) n2 capE) n2 (zs.flatMap LVar.cells) :: varsK D zs :: ks))
            case first =>
              cases ib with
              | true =>
                have hkp := hid (show kindP s l m5 = (1, m5.take l wInt) from if_pos hibH.out)
                go_wp2_with fail
                go_meet
                case rel => exact ⟨by rw [hkp.out], by rw [hkp.out]; exact f_23⟩
              | false =>
                have hkp := hid (show kindP s l m5 = (2, m5.want s l wBool) from if_neg (by rw [hibH.out]; simp))
                rw [take_not (show m5.is l (⟨#[105, 110, 116]⟩ : ByteArray).data.toList = false from hibH.out)] at f_23
                go_wp2_with fail
                refine (rwant_m hE f_23.sm ⟨#[98, 111, 111, 108]⟩).mono ?_
                rintro r W24 ⟨rfl, t_24, q_24⟩
                have f_24 := f_23.turn t_24 q_24
                clear f_23 t_24 q_24
                go_wp2_with fail
                go_meet
                case rel => exact ⟨by rw [hkp.out], by rw [hkp.out]; exact f_24⟩
            case rest =>
              clear f_23
              obtain ⟨rfl, f_40⟩ := hcut
              have hkd : I64 (kindP s l m5).1 := by rcases kind_in (s := s) (l := l) (m := m5) with h | h <;> rw [h] <;> unfold I64 <;> omega
              obtain ⟨kd, hkd2⟩ : ∃ x, x = (kindP s l m5).1 := ⟨_, rfl⟩
              obtain ⟨mk, hmk⟩ : ∃ x, x = (kindP s l m5).2 := ⟨_, rfl⟩
              have hkdH := hid hkd2
              have hmkH := hid hmk
              rw [← hkd2] at hkd ⊢
              rw [← hmk] at f_40
              clear hkd2 hmk
              obtain ⟨L0, hL0⟩ : ∃ x, x = litsP s l 4 [] mk := ⟨_, rfl⟩
              have hL0H := hid hL0
              clear hL0
              have fs := f_40.nilRow 106 2
              clear f_40
              go_wp2_with fail
              go_loopw [10] (fun v wr => ∃ (Ac : Option Addr) (nc cc : Nat) (cs : List LitE) (m1 : Md), v = .slice Ac nc cc ∧ cs.length = nc ∧ nc ≤ 5 ∧ PF s l P g w0 m1 wr (rowK w0 106 2 (.slice Ac nc cc) nc (cs.flatMap LitE.cells) :: rowK w0 96 5 (.slice (some ⟨GE, 0, none⟩) n2 capE) n2 (zs.flatMap LVar.cells) :: varsK D zs :: ks) ∧ Hid ((m1.isBad = false → nc ≤ 4 ∧ L0 = litsP s l (4 - nc) cs m1) ∧ (m1.isBad = true → L0.2 = m1)) ∧ (∀ x ∈ cs, x.name.size ≤ maxLen)) (fun v _ => 6 - lenOf v)
              case atStart => exact ⟨none, 0, 0, [], mk, rfl, rfl, by omega, fs, hid ⟨fun _ => ⟨by omega, hL0H.out⟩, fun h => by rw [hL0H.out, lits_bad h]⟩, by simp⟩
              case round =>
                clear fs
                obtain ⟨Ac, nc, cc, cs, m6, rfl, hcn, hc5, f_50, hlq, hcl⟩ := hrel
                by_cases h0 : m6.is l (⟨#[119, 104, 101, 110]⟩ : ByteArray).data.toList = true
                · obtain ⟨i, rfl, hi⟩ := is_yes h0
                  obtain ⟨hc4, hlx⟩ := hlq.out.1 rfl
                  have hlxH := hid hlx
                  clear hlx hlq
                  go_wp2_with fail
                  refine (ris_m f_50.sm ⟨#[119, 104, 101, 110]⟩).mono ?_
                  rintro r W51 ⟨rfl, t_51, q_51⟩
                  have f_51 := f_50.turn t_51 q_51
                  clear f_50 t_51 q_51
                  rw [h0]
                  obtain ⟨m7, hm7⟩ : ∃ x, x = if nc = 4 then (Md.ok i).err s l 3 else .ok i := ⟨_, rfl⟩
                  have hm7H := hid hm7
                  clear hm7
                  go_upto_if 56 with fail
                  obtain ⟨j, crd, ⟨hlt_j, hj_j, hx1, hx2⟩, ⟨c0, c1, k0, k1, k2, k3, k4⟩, ⟨d0, d1, e0, e1, e2, e3, e4⟩⟩ := f_51.reads (.cells #[.int .i64 0, .int .i64 0] 25)
                  obtain rfl : j = i := hj_j i rfl
                  go_cut [56] from 57 to 69 (fun _ wx => PF s l P g w0 m7 wx (rowK w0 106 2 (.slice Ac nc cc) nc (cs.flatMap LitE.cells) :: rowK w0 96 5 (.slice (some ⟨GE, 0, none⟩) n2 capE) n2 (zs.flatMap LVar.cells) :: varsK D zs :: ks))
                  case first =>
                    by_cases h4 : nc = 4
                    · have h4b : ((nc : Int) == 4) = true := by simp [h4]
                      have hm := hm7H.out
                      rw [if_pos h4] at hm
                      clear h4 hc4 hc5
                      have hsH := hid f_51
                      go_wp2_with fail
                      go_region_with (go_at_call 18; (with_reducible refine (rfail_m (Fr.sm (Fr.drew hsH.out)) (e := 3) (by decide) _ _).mono ?_); rintro r W_r ⟨rfl, t_r, q_r⟩; have f_r := hid (Fr.turn (Fr.drew hsH.out) t_r q_r))
                      all_goals
                        go_wp2_with fail
                        go_meet
                        case rel => exact hm ▸ f_r.out
                    · have h4b : ((nc : Int) == 4) = false := by simp; omega
                      have hm := hm7H.out
                      rw [if_neg h4] at hm
                      go_wp2_with fail
                      go_meet
                      case rel => exact hm ▸ f_51
                  case rest =>
                    clear c0 c1 k0 k1 k2 k3 k4 d0 d1 e0 e1 e2 e3 e4 f_51
                    have f_60 := hcut
                    clear hcut
                    go_wp2_with fail
                    refine (rwant_m hE f_60.sm ⟨#[119, 104, 101, 110]⟩).mono ?_
                    rintro r W61 ⟨rfl, t_61, q_61⟩
                    have f_61 := f_60.turn t_61 q_61
                    clear f_60 t_61 q_61
                    obtain ⟨m8, hm8⟩ : ∃ x, x = m7.want s l wWhen := ⟨_, rfl⟩
                    replace hm8 := hid hm8
                    rw [show m7.want s l (⟨#[119, 104, 101, 110]⟩ : ByteArray).data.toList = m8 from hm8.out.symm] at f_61
                    go_wp2_with fail
                    refine (rtake_m hE f_61.sm ⟨#[110, 111, 116]⟩).mono ?_
                    rintro r W62 ⟨rfl, t_62, q_62⟩
                    have f_62 := f_61.turn t_62 q_62
                    clear f_61 t_62 q_62
                    obtain ⟨ng, hng⟩ : ∃ x, x = m8.is l wNot := ⟨_, rfl⟩
                    have hngH := hid hng
                    rw [show m8.is l (⟨#[110, 111, 116]⟩ : ByteArray).data.toList = ng from hng.symm]
                    clear hng
                    obtain ⟨m9, hm9⟩ : ∃ x, x = m8.take l wNot := ⟨_, rfl⟩
                    replace hm9 := hid hm9
                    rw [show m8.take l (⟨#[110, 111, 116]⟩ : ByteArray).data.toList = m9 from hm9.out.symm] at f_62
                    go_wp2_with fail
                    refine (rname_m hE f_62.sm true).mono ?_
                    rintro r W63 ⟨k, hlt_k, hj_k, rfl, t_63, q_63⟩
                    have f_63 := f_62.turn t_63 q_63
                    clear f_62 t_63 q_63
                    obtain ⟨m10, hm10⟩ : ∃ x, x = m9.name s l false := ⟨_, rfl⟩
                    replace hm10 := hid hm10
                    rw [show m9.name s l (!true) = m10 from hm10.out.symm] at f_63
                    go_wp2_with (at_builtin; refine Held.stop ?_)
                    refine Held.go ?_
                    have f_64 := f_63.alloc (.cells #[.string (tkN l k).text, .bool ng] 106)
                    have z_64 := alloc_size W63 (.cells #[.string (tkN l k).text, .bool ng] 106)
                    clear f_63
                    generalize W63.heap.size = B at *
                    generalize W63.alloc (.cells #[.string (tkN l k).text, .bool ng] 106) = W64 at *
                    clear z_64
                    refine Fr.wpApp (f_64.rot1.rot1) rfl _ _ _ rfl Try.underlying94 hiil hizl hisl hibl hicl (by decide) rfl rfl rfl lit_one (by decide) (by unfold maxLen; omega) (by omega) ?_
                    intro GC capC W65 f_65
                    clear f_64
                    have fin := f_65.rot1.tail
                    have hr : cs.flatMap LitE.cells ++ (#[.string (tkN l k).text, .bool ng] : Array Value).toList = (cs ++ [LitE.mk (tkN l k).text ng]).flatMap LitE.cells := by
                      simp [LitE.cells]
                    rw [hr] at fin
                    clear hr f_65
                    go_wp2_with fail
                    go_roundw
                    case rel =>
                      refine ⟨_, nc + 1, _, cs ++ [LitE.mk (tkN l k).text ng], m10, rfl, by simp [hcn], by omega, fin, hid ⟨fun hb10 => ?_, fun hb10 => ?_⟩, fun x hx => by
                        rcases List.mem_append.1 hx with hx | hx
                        · exact hcl x hx
                        · obtain rfl : x = _ := by simpa using hx
                          exact (hK k).2.2.1⟩
                      · obtain ⟨j10, h10⟩ := not_bad hb10
                        obtain ⟨j9, h9, _⟩ := name_ok (hm10.out.symm.trans h10)
                        have hlt4 : nc ≠ 4 := fun h4 => by
                          have hm := hm7H.out
                          rw [if_pos h4] at hm
                          obtain ⟨j9, h9⟩ : ∃ x, m9 = .ok x := ⟨j9, h9⟩
                          obtain ⟨j8, h8⟩ := take_ok (hm9.out.symm.trans h9)
                          obtain ⟨j7, h7⟩ := want_ok (hm8.out.symm.trans h8)
                          exact err_ok (hm.symm.trans h7)
                        have hm := hm7H.out
                        rw [if_neg hlt4] at hm
                        have h8 : m8 = (Md.ok j).take l wWhen := by rw [hm8.out, hm]; exact want_take h0
                        have ht : ((Md.ok j).take l wWhen).take l wNot = m9 := by rw [← h8, hm9.out]
                        refine ⟨by omega, ?_⟩
                        rw [hlxH.out, show 4 - nc = (4 - (nc + 1)) + 1 by omega]
                        have hs : litsP s l ((4 - (nc + 1)) + 1) cs (.ok j) = litsP s l (4 - (nc + 1)) (cs ++ [⟨(((Md.ok j).take l wWhen).take l wNot).text l, ((Md.ok j).take l wWhen).is l wNot⟩]) ((((Md.ok j).take l wWhen).take l wNot).name s l false) := if_pos h0
                        rw [hs, ht, ← h8, ← hm10.out, ← hngH.out, h9]
                        obtain rfl := hj_k j9 h9
                        rfl
                      · by_cases h4 : nc = 4
                        · have hm := hm7H.out
                          rw [if_pos h4] at hm
                          have hb7 : m7.isBad = true := by rw [hm]; rfl
                          have h8 : m8 = m7 := hm8.out.trans ((bad_keep hb7).2.1 _)
                          have h9 : m9 = m7 := by rw [hm9.out, h8]; exact (bad_keep (s := s) hb7).1 _
                          have h10 : m10 = m7 := by rw [hm10.out, h9]; exact (bad_keep hb7).2.2.1 _
                          rw [h10, hm, hlxH.out, h4]
                          exact congrArg Prod.snd (show litsP s l 0 cs (.ok j) = (cs, (Md.ok j).err s l 3) from if_pos h0)
                        · have hm := hm7H.out
                          rw [if_neg h4] at hm
                          have h8 : m8 = (Md.ok j).take l wWhen := by rw [hm8.out, hm]; exact want_take h0
                          have hs : litsP s l ((4 - (nc + 1)) + 1) cs (.ok j) = litsP s l (4 - (nc + 1)) (cs ++ [⟨(((Md.ok j).take l wWhen).take l wNot).text l, ((Md.ok j).take l wWhen).is l wNot⟩]) ((((Md.ok j).take l wWhen).take l wNot).name s l false) := if_pos h0
                          rw [hlxH.out, show 4 - nc = (4 - (nc + 1)) + 1 by omega, hs, ← h8, ← hm9.out, ← hm10.out, lits_bad hb10]
                    case measure => simp [lenOf]; omega
                · have h0 := eq_false_of_ne_true h0
                  go_wp2_with fail
                  refine (ris_m f_50.sm ⟨#[119, 104, 101, 110]⟩).mono ?_
                  rintro r W51 ⟨rfl, t_51, q_51⟩
                  have f_51 := f_50.turn t_51 q_51
                  clear f_50 t_51 q_51
                  rw [h0]
                  have hL2 : L0.2 = m6 ∧ ∀ j, m6 = .ok j → cs = L0.1 := by
                    cases hb6 : m6.isBad with
                    | true => exact ⟨hlq.out.2 hb6, fun j hj => by rw [hj] at hb6; cases hb6⟩
                    | false =>
                      have h := (hlq.out.1 hb6).2
                      have h2 : L0 = (cs, m6) := by
                        rw [h]
                        cases hk : 4 - nc <;> exact if_neg (by rw [show m6.is l wWhen = false from h0]; simp)
                      exact ⟨by rw [h2], fun _ _ => by rw [h2]⟩
                  have hgr : groupP s l most (xs.map (·.v)) m = (setVars n q0.1 (kindP s l (q0.2.want s l wColon)).1 (litsP s l 4 [] (kindP s l (q0.2.want s l wColon)).2).1, (litsP s l 4 [] (kindP s l (q0.2.want s l wColon)).2).2) := by
                    unfold groupP
                    rw [← hq0H.out, hml]
                  rw [hnzH.out, ← hm5.out, ← hkdH.out, ← hmkH.out, ← hL0H.out] at hgr
                  have hmg : m6 = (groupP s l most (xs.map (·.v)) m).2 := by rw [hgr]; exact hL2.1.symm
                  have hvg : ∀ j, m6 = .ok j → setVars n (zs.map (·.v)) kd cs = (groupP s l most (xs.map (·.v)) m).1 := fun j hj => by
                    have h1 := hL2.2 j hj
                    have h2 := hL2.1.trans hj
                    rw [hL0H.out] at h2
                    obtain ⟨j3, h3⟩ := lits_ok 4 [] h2
                    obtain ⟨j4, h4⟩ := kind_ok (hmkH.out.symm.trans h3)
                    obtain ⟨j5, h5⟩ := want_ok (hm5.out.symm.trans h4)
                    rw [hgr, h1, hnvH.out j5 h5]
                  have hmgH := hid hmg
                  have hvgH := hid hvg
                  clear hmg hvg hgr hL2 hlq
                  obtain ⟨D3, fl⟩ := Fr.lrow f_51 hcn hcl
                  clear f_51
                  have fs := (Fr.fuse (x := varsLK (fun n => D n ∨ D3 n) zs ⟨Ac, cc⟩ cs) fl.rot2 (fun _ h => h) (varsLK_of fl.rot2.head.q fl.head.q) (varsLK_ok _ _ _ _)).rot1
                  clear fl
                  go_wp2_with fail
                  go_loopw [12] (fun i wr => ∃ (j : Nat) (us : List LVar), i = .int .i64 j ∧ n ≤ j ∧ j ≤ n2 ∧ us.length = n2 ∧ PF s l P g w0 m6 wr (rowK w0 96 5 (.slice (some ⟨GE, 0, none⟩) n2 capE) n2 (us.flatMap LVar.cells) :: varsLK (fun n => D n ∨ D3 n) us ⟨Ac, cc⟩ cs :: ks) ∧ Hid (SetTo n j zs us kd cs)) (fun i _ => n2 - (intOf i).toNat)
                  case atStart => exact ⟨n, zs, rfl, Nat.le_refl _, by omega, hzn, fs, SetTo.start _ _ _ _⟩
                  case round =>
                    clear fs
                    obtain ⟨j, us, rfl, hj1, hj2, hun, f_90, hset⟩ := hrel
                    by_cases hlt : j < n2
                    · have hj0 : (0 : Int) ≤ (j : Int) := by omega
                      have hj3 : (j : Int) < ((n2 : Nat) : Int) := by omega
                      obtain ⟨hx1, hx2, hx3, hx4⟩ := vrow_in f_90.head.q hun hlt
                      have f_91 := f_90
                      go_wp2_with fail
                      have fq := Fr.setRow (Fr.setRow f_91 (j * 5 + 1) (.int .i64 kd)) (j * 5 + 2) (.slice Ac nc cc)
                      rw [vrow_set hlt hun kd cs Ac cc nc hcn] at fq
                      clear f_90 f_91
                      have fq := (fq.rot1.turn1 (x := varsLK (fun n => D n ∨ D3 n) (us.set j ⟨{ (us[j]'(by omega)).v with type := kd, clock := cs }, ⟨Ac, cc⟩⟩) ⟨Ac, cc⟩ cs) (fun n h => h) ⟨vars_set fq.rot1.head.q.1 (fun _ h => h) hkd fq.rot1.head.q.2.1 fq.rot1.head.q.2.2, fq.rot1.head.q.2⟩ (varsLK_ok _ _ _ _)).rot1
                      go_roundw
                      case rel => exact ⟨j + 1, _, by go_num, by omega, by omega, by simpa using hun, fq, SetTo.step hset.out hun hlt hj1⟩
                      case measure => simp [intOf]; omega
                    · have hj4 : j = n2 := by omega
                      subst hj4
                      go_wp2_with fail
                      have f_99 := (f_90.rot1.turn1 (x := varsK (fun n => D n ∨ D3 n) us) (fun _ h => h) f_90.rot1.head.q.1 (varsK_ok _ _)).rot1
                      go_ret
                      exact ⟨_, _, _, us, _, m6, rfl, hun, by omega, f_99, hmgH.out, fun i hi => by rw [← hvgH.out i hi]; exact hset.out.all hzn hun⟩
end Go.Proofs.Ytnlikhjmmnaknaa
/-
  The walk of the reference's Ports (printed by gen_p5.py).
-/
namespace Go.Proofs.Ytnlikhjmmnaknaa
open Go.RowKit


set_option maxHeartbeats 4000000 in
set_option maxRecDepth 100000 in
theorem rports_m {s : ByteArray} {l : List Tk} {P g : Nat} (hE : Ended l) (hK : TkOk s l) {w0 w : World} {m : Md} {ks : List Kp} (f : PF s l P g w0 m w ks) :
    Calls Try.prog 53 #[.pointer (some ⟨P, 0, none⟩)] w fun r w' => ∃ (A : Option Addr) (n c : Nat) (vs : List VarE) (D : Nat → Prop) (m' : Md), r = .returned (.slice A n c) ∧ vs.length = n ∧ PF s l P g w0 m' w' (vrowK D ⟨A, c⟩ vs :: ks) ∧ m' = (portsP s l m).2 ∧ (∀ j, m' = .ok j → vs = (portsP s l m).1) := by
  go_enter Try.func53, Try.ntmps53
  go_wp2_with fail
  refine (rwant_m hE f.sm ⟨#[40]⟩).mono ?_
  rintro r W1 ⟨rfl, t_1, q_1⟩
  have f_1 := f.turn t_1 q_1
  clear f t_1 q_1
  obtain ⟨a1, ha1⟩ : ∃ x, x = m.want s l wOpen := ⟨_, rfl⟩
  replace ha1 := hid ha1
  rw [show m.want s l (⟨#[40]⟩ : ByteArray).data.toList = a1 from ha1.out.symm] at f_1
  go_wp2_with fail
  obtain ⟨q0, hq0⟩ : ∃ q0, q0 = portsGo s l 9 [] a1 := ⟨_, rfl⟩
  have hq0H := hid hq0
  have fs := f_1.noVars
  clear f_1
  refine (rgroup_m hE hK 8 (by omega) (n := 0) (xs := []) rfl (by omega) fs).mono ?_
  rintro r W2 ⟨A2, n2, c2, zs, D2, m2, rfl, hzn, hz50, f_2, hm2, hv2⟩
  clear fs
  have hr0 : (m2.isBad = false → n2 ≤ 8 ∧ 9 ≤ n2 + 8 ∧ zs.map (·.v) = (groupP s l 8 [] a1).1) ∧ q0 = PG s l 8 (groupP s l 8 [] a1).1 m2 := by
    refine ⟨fun hb => ?_, by rw [hq0, ports_PG, show m2 = _ from hm2]; rfl⟩
    obtain ⟨j, hj⟩ := not_bad hb
    have h1 := group_ok (s := s) (l := l) (most := 8) (xs := []) (m := a1) (by simp) (hm2.symm.trans hj)
    have h2 := hv2 j hj
    have h3 : (groupP s l 8 [] a1).1.length = n2 := by rw [← hzn, ← List.length_map (f := fun x : LVar => x.v), h2]; rfl
    simp only [List.length_nil] at h1
    exact ⟨by omega, by omega, h2⟩
  have hr0H := hid hr0
  clear hr0 hm2 hv2 hq0
  go_wp2_with fail
  go_loopg [3] 8 (fun gk v wr => ∃ (A : Option Addr) (n c : Nat) (zs : List LVar) (D : Nat → Prop) (m1 : Md) (g1 : List VarE), v = .slice A n c ∧ zs.length = n ∧ n ≤ 50 ∧ PF s l P g w0 m1 wr (rowK w0 96 5 (.slice A n c) n (zs.flatMap LVar.cells) :: varsK D zs :: ks) ∧ Hid ((m1.isBad = false → n ≤ 8 ∧ 9 ≤ n + gk ∧ zs.map (·.v) = g1) ∧ q0 = PG s l gk g1 m1))
  case atStart => exact ⟨A2, n2, c2, zs, D2, m2, _, rfl, hzn, hz50, f_2, hr0H⟩
  case round =>
    clear hr0H f_2 hzn hz50
    obtain ⟨A, n, c, xs, D, m1, g1, rfl, hxn, hx50, f_20, hq⟩ := hrel
    go_wp2_with fail
    by_cases h0 : m1.is l (⟨#[59]⟩ : ByteArray).data.toList = true
    · obtain ⟨i, rfl, hi⟩ := is_yes h0
      obtain ⟨hn8, hng, hg1⟩ := hq.out.1 rfl
      obtain ⟨gk, rfl⟩ : ∃ x, gk = x + 1 := ⟨gk - 1, by omega⟩
      have hqx : q0 = portsGo s l (gk + 1) (xs.map (·.v)) ((Md.ok i).take l wSemi) := by rw [hq.out.2, hg1]; exact if_pos h0
      have hqxH := hid hqx
      clear hqx hq hg1
      obtain ⟨a2, ha2⟩ : ∃ x, x = (Md.ok i).take l wSemi := ⟨_, rfl⟩
      have ha2H := hid ha2
      rw [← ha2] at hqxH
      clear ha2
      refine (rtake_m hE f_20.sm ⟨#[59]⟩).mono ?_
      rintro r W21 ⟨rfl, t_21, q_21⟩
      have f_21 := f_20.turn t_21 q_21
      clear f_20 t_21 q_21
      rw [h0]
      rw [show (Md.ok i).take l (⟨#[59]⟩ : ByteArray).data.toList = a2 from ha2H.out.symm] at f_21
      go_wp2_with fail
      refine (rgroup_m hE hK 8 (by omega) hxn hn8 f_21).mono ?_
      rintro r W22 ⟨A3, n3, c3, ys, D3, m3, rfl, hyn, hy50, f_22, hm3, hv3⟩
      clear f_21
      have hr3 : (m3.isBad = false → n3 ≤ 8 ∧ 9 ≤ n3 + gk ∧ ys.map (·.v) = (groupP s l 8 (xs.map (·.v)) a2).1) ∧ q0 = PG s l gk (groupP s l 8 (xs.map (·.v)) a2).1 m3 := by
        refine ⟨fun hb => ?_, by rw [hqxH.out, ports_PG, show m3 = _ from hm3]⟩
        obtain ⟨j, hj⟩ := not_bad hb
        have h1 := group_ok (s := s) (l := l) (most := 8) (xs := xs.map (·.v)) (m := a2) (by simpa [hxn] using hn8) (hm3.symm.trans hj)
        have h2 := hv3 j hj
        have h3 : (groupP s l 8 (xs.map (·.v)) a2).1.length = n3 := by rw [← hyn, ← List.length_map (f := fun x : LVar => x.v), h2]
        rw [List.length_map, hxn] at h1
        exact ⟨by omega, by omega, h2⟩
      have hr3H := hid hr3
      clear hr3 hm3 hv3
      go_wp2_with fail
      go_roundg gk
      case measure => omega
      case rel => exact ⟨A3, n3, c3, ys, D3, m3, _, rfl, hyn, hy50, f_22, hr3H⟩
    · have h0 := eq_false_of_ne_true h0
      have hqx : q0 = (g1, m1) := by rw [hq.out.2]; exact if_neg (by rw [show m1.is l wSemi = false from h0]; simp)
      have hp2 : (portsP s l m).2 = m1.want s l wShut := by
        unfold portsP
        rw [← ha1.out, ← hq0H.out, hqx]
      have hp1 : ∀ j, m1.want s l wShut = .ok j → xs.map (·.v) = (portsP s l m).1 := fun j hj => by
        obtain ⟨i, hi⟩ := want_ok hj
        unfold portsP
        rw [← ha1.out, ← hq0H.out, hqx]
        exact (hq.out.1 (ok_not_bad hi)).2.2
      have hp1H := hid hp1
      have hp2H := hid hp2
      clear hp1 hp2 hqx hq
      refine (rtake_m hE f_20.sm ⟨#[59]⟩).mono ?_
      rintro r W21 ⟨rfl, t_21, q_21⟩
      have f_21 := f_20.turn t_21 q_21
      clear f_20 t_21 q_21
      rw [h0]
      rw [take_not h0] at f_21
      go_wp2_with fail
      refine (rwant_m hE f_21.sm ⟨#[41]⟩).mono ?_
      rintro r W22 ⟨rfl, t_22, q_22⟩
      have f_22 := f_21.turn t_22 q_22
      clear f_21 t_22 q_22
      go_wp2_with fail
      obtain ⟨De, fin⟩ := f_22.vrow hxn
      go_ret
      exact ⟨_, n, _, _, De, _, rfl, by simpa using hxn, fin, hp2H.out.symm, hp1H.out⟩
end Go.Proofs.Ytnlikhjmmnaknaa
