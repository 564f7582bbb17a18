/-
  The walk of the reference's event: its parts.
-/
import Derived.BigQuiet
import Derived.Test.YtmdnmodjdgcmjaaDoorHScRe
import Derived.Test.YtmdnmodjdgcmjaaDoorHScRw
import Derived.Test.YtmdnmodjdgcmjaaDoorHScZ
namespace Go.Proofs.YtmdnmodjdgcmjaaDoor
open Go.RowKit

def kindL : List (List UInt8) := [sSubmit, sRun, sSave, sCut, sCrash]
/-- the kind, from the first of them -/
def kUp (w : List UInt8) : Nat → Int
  | 0 => 0
  | j + 1 => if w = kindL.getD j [] then (j : Int) + 1 else kUp w j
theorem kUp_end (w : List UInt8) : kUp w 5 = kindOf w := by
  unfold kindOf
  simp only [kUp, kindL, List.getD_cons_succ, List.getD_cons_zero]
  by_cases h5 : w = sCrash
  · subst h5; decide
  by_cases h4 : w = sCut
  · subst h4; decide
  by_cases h3 : w = sSave
  · subst h3; decide
  by_cases h2 : w = sRun
  · subst h2; decide
  by_cases h1 : w = sSubmit
  · subst h1; decide
  rw [if_neg h5, if_neg h4, if_neg h3, if_neg h2, if_neg h1, if_neg h1, if_neg h2, if_neg h3, if_neg h4, if_neg h5]

/-- what has been read so far: of the first m words the numbers ls -/
def RdInv (c : Bool) (W : List (List UInt8)) (m : Nat) (ls : List Int) : Prop := rdAll c true W = match rdAll c (decide (m = 0)) (W.drop m) with
  | none => none
  | some l => some (ls ++ l)
theorem rd_start (c : Bool) (W : List (List UInt8)) : RdInv c W 0 [] := by
  unfold RdInv
  rw [List.drop_zero, show decide (0 = 0) = true by decide]
  cases rdAll c true W <;> rfl
section
variable {c : Bool} {W : List (List UInt8)} {m : Nat} {ls : List Int}
theorem rd_none (h : RdInv c W m ls) (hm : m < W.length) (h1 : rdOne c (decide (m = 0)) W[m] = none) : rdAll c true W = none := by
  unfold RdInv at h
  rw [List.drop_eq_getElem_cons hm, rdAll, h1] at h
  exact h
theorem rd_some (h : RdInv c W m ls) (hm : m < W.length) {v : Int} (h1 : rdOne c (decide (m = 0)) W[m] = some v) : RdInv c W (m + 1) (ls ++ [v]) := by
  unfold RdInv at h ⊢
  rw [List.drop_eq_getElem_cons hm, rdAll, h1] at h
  rw [h, show decide (m + 1 = 0) = false from decide_eq_false (by omega)]
  dsimp only
  cases rdAll c false (W.drop (m + 1)) with
  | none => rfl
  | some l => simp
theorem rd_done (h : RdInv c W W.length ls) : rdAll c true W = some ls := by
  unfold RdInv at h
  rw [List.drop_length, rdAll] at h
  simpa using h
end
theorem kind_i64 (w : List UInt8) : I64 (kindOf w) := by
  have h : ∀ k : Int, 0 ≤ k → k ≤ 5 → I64 k := fun k h0 h1 => by unfold I64; omega
  unfold kindOf
  split
  · exact h _ (by decide) (by decide)
  split
  · exact h _ (by decide) (by decide)
  split
  · exact h _ (by decide) (by decide)
  split
  · exact h _ (by decide) (by decide)
  split <;> exact h _ (by decide) (by decide)
def REvPost (o : Option EvE) (w : World) (r : Ending) (w' : World) : Prop := Below w.heap.size w w' ∧ ∃ x R C ok, r = .returned (.tuple #[x.val R C, .bool ok]) ∧ EvOf (Iv w.heap.size w'.heap.size) w' x R C ∧
  (∀ y, o = some y → ok = true ∧ x = y) ∧ (o = none → ok = false)
theorem end_1 {ls : List Int} {m : Nat} (hl : ls.length = m) {po : Option EvE} (h : po = evEnd 1 ls) : (∀ y, po = some y → rightN 1 0 m 0 = true ∧ (⟨1, 0, ls, []⟩ : EvE) = y) ∧ (po = none → rightN 1 0 m 0 = false) := by
  subst hl h
  have he : evEnd 1 ls = if rightN 1 0 ls.length 0 = true then some ⟨1, 0, ls, []⟩ else none := by unfold evEnd; rw [if_pos rfl]; rfl
  rw [he]
  cases rightN 1 0 ls.length 0 with
  | true => rw [if_pos rfl]; exact ⟨(fun y h => ⟨rfl, by injection h⟩), (fun h => by cases h)⟩
  | false => rw [if_neg (by decide)]; exact ⟨(fun y h => by cases h), fun _ => rfl⟩
theorem end_3 {ls : List Int} {m : Nat} (hl : ls.length = m) {po : Option EvE} (h : po = evEnd 3 ls) : po = if m = 0 then some ⟨3, 0, [], []⟩ else none := by
  subst hl h
  unfold evEnd; rw [if_neg (by decide), if_pos rfl]
theorem end_bad {ls : List Int} {m : Nat} {k : Int} (hl : ls.length = m) {po : Option EvE} (h : po = evEnd k ls) (h1 : k ≠ 1) (h3 : k ≠ 3) (hb : m = 0 ∨ (k ≠ 5 ∧ 1 < m)) : po = none := by
  subst hl h
  unfold evEnd; rw [if_neg h1, if_neg h3, if_pos hb]
theorem end_go {v : Int} {tl : List Int} {m : Nat} {k : Int} (hl : tl.length = m) {po : Option EvE} (h : po = evEnd k (v :: tl)) (h1 : k ≠ 1) (h3 : k ≠ 3) (hb : ¬ (k ≠ 5 ∧ 1 < m + 1)) :
    (∀ y, po = some y → rightN k v 0 m = true ∧ (⟨k, v, [], tl.map toB⟩ : EvE) = y) ∧ (po = none → rightN k v 0 m = false) := by
  subst hl h
  have he : evEnd k (v :: tl) = if rightN k v 0 (tl.map toB).length = true then some ⟨k, v, [], tl.map toB⟩ else none := by
    unfold evEnd; rw [if_neg h1, if_neg h3, if_neg (by simpa using hb)]; rfl
  rw [he, List.length_map]
  cases rightN k v 0 tl.length with
  | true => rw [if_pos rfl]; exact ⟨(fun y h => ⟨rfl, by injection h⟩), (fun h => by cases h)⟩
  | false => rw [if_neg (by decide)]; exact ⟨(fun y h => by cases h), fun _ => rfl⟩
theorem rd_okB {W : List (List UInt8)} {v : Int} {tl : List Int} (h : rdAll true true W = some (v :: tl)) : ∀ u ∈ tl, 0 ≤ u ∧ u ≤ 255 := by
  cases W with
  | nil => cases h
  | cons w t =>
    rw [rdAll] at h
    cases h1 : rdOne true true w with
    | none => rw [h1] at h; cases h
    | some v' =>
      rw [h1] at h
      dsimp only at h
      rw [rd_more] at h
      cases h2 : numsP t with
      | none => rw [h2] at h; cases h
      | some l =>
        rw [h2] at h
        dsimp only at h
        by_cases ha : l.all okB = true
        · rw [if_pos ha] at h
          dsimp only at h
          injection h with h
          injection h with _ h
          subst h
          intro u hu
          have := List.all_eq_true.1 ha u hu
          unfold okB at this
          simpa using this
        · rw [if_neg ha] at h; cases h
/-- an event whose choices lie in a row of a frame -/
theorem Fr.evCh {S : World → Prop} {w w' : World} {ks : List Kp} {A : Option Addr} {n c : Nat} {k v : Int} {bs : List UInt8} (h0 : Fr none S w w' (rowK w 5 1 (.slice A n c) n (bs.flatMap byteC) :: ks)) (hn : bs.length = n) (hk : I64 k) (hv : I64 v) : EvOf (Iv w.heap.size w'.heap.size) w' ⟨k, v, [], bs⟩ ⟨none, 0⟩ ⟨A, c⟩ := by
  have h1 := sl_own byteC 1 (fun _ => rfl) (D := Iv w.heap.size w'.heap.size) hn h0.head.q (fun g hg => ⟨h0.head.lo g hg, h0.head.hi g hg⟩)
    (P := ByteIn (Iv w.heap.size w'.heap.size) w') (fun b o j hj hD hc => ⟨hD, hc 0 (by omega)⟩)
  exact ⟨hk, hv, ⟨Nat.le_refl _, Nat.zero_le _⟩, by rw [hn]; exact h1.1, (fun j hj => absurd hj (by simp)), h1.2⟩
theorem Fr.drew1 {P : Option Nat} {S : World → Prop} {w0 w : World} {ks : List Kp} (h : Fr P S w0 w ks) : Fr P S w0 w.drew ks := h.below (Below.drew (Below.refl _ _))
/-- the five strings -/
def kindC : Array Value := #[.string ⟨#[115, 117, 98, 109, 105, 116]⟩, .string ⟨#[114, 117, 110]⟩, .string ⟨#[115, 97, 118, 101]⟩, .string ⟨#[99, 117, 116]⟩, .string ⟨#[99, 114, 97, 115, 104]⟩]

set_option maxRecDepth 100000 in
set_option maxHeartbeats 4000000 in
theorem rev_any (x : ByteArray) (ws : List ByteArray) (A : Option Addr) (c : Nat) (w : World) (hw : WordsAt w A (x :: ws)) (hn : ws.length + 1 ≤ 20000000) (hs : ∀ y ∈ x :: ws, y.size ≤ 20000000) :
    Calls Tryd.prog 38 #[.slice A (ws.length + 1) c] w (REvPost (evP (wordL (x :: ws))) w) := by
  have hz : I64 0 := by unfold I64; omega
  have hW := hid (fun W (h : Below w.heap.size w W) => hw.keep h)
  obtain ⟨wb, wo, rfl, hwb, hc0⟩ := words_hd hw
  have hkeep := hid (fun W (h : Below w.heap.size w W) => (h.cell (p := ⟨wb, wo, none⟩) hwb).trans hc0)
  obtain ⟨N, hN⟩ : ∃ N, N = ws.length + 1 := ⟨_, rfl⟩
  rw [← hN]
  have hn1 : (N : Int) ≤ 9223372036854775807 := by omega
  have hn3 : (0 : Int) < (N : Int) := by omega
  replace hN := hid hN
  rw [show wordL (x :: ws) = x.data.toList :: wordL ws from rfl, ← evR_eq]
  have hpo : evR x.data.toList (wordL ws) = match rdAll (decide (kindOf x.data.toList = 5)) true (wordL ws) with
    | none => none
    | some l => evEnd (kindOf x.data.toList) l := rfl
  generalize evR x.data.toList (wordL ws) = po at *
  replace hpo := hid hpo
  have f_0 := ((Fr.start0 w).alloc (.cells #[.int .i64 0, .int .i64 0, .slice none 0 0, .slice none 0 0] 40))
  clear hw hwb hc0
  go_enter Tryd.func38, Tryd.ntmps38
  go_upto_region 1 with fail
  generalize w.alloc (.cells #[.int .i64 0, .int .i64 0, .slice none 0 0, .slice none 0 0] 40) = W0 at *
  generalize w.heap.size = X at f_0 ⊢
  go_upto_region 2 with fail
  have f_1 := f_0.alloc (.cells kindC 9)
  unfold kindC at f_1
  clear f_0
  generalize W0.alloc (.cells #[.string ⟨#[115, 117, 98, 109, 105, 116]⟩, .string ⟨#[114, 117, 110]⟩, .string ⟨#[115, 97, 118, 101]⟩, .string ⟨#[99, 117, 116]⟩, .string ⟨#[99, 114, 97, 115, 104]⟩] 9) = W1 at *
  generalize W0.heap.size = K at f_1 ⊢
  go_upto_region 3 with fail
  have f_2 := f_1.alloc (.cells #[.int .i64 0, .int .i64 0, .slice none 0 0, .slice none 0 0] 40)
  clear f_1
  generalize W1.alloc (.cells #[.int .i64 0, .int .i64 0, .slice none 0 0, .slice none 0 0] 40) = W2 at *
  generalize W1.heap.size = Y at f_2 ⊢
  go_wp2_with fail
  go_loopw [6] (fun i wr => ∃ j : Nat, j ≤ 5 ∧ i = .int .i64 j ∧ Fr none (fun _ => True) w wr [blkK Y (.cells #[.int .i64 (kUp x.data.toList j), .int .i64 0, .slice none 0 0, .slice none 0 0] 40 (0, 0)), blkK K (.cells #[.string ⟨#[115, 117, 98, 109, 105, 116]⟩, .string ⟨#[114, 117, 110]⟩, .string ⟨#[115, 97, 118, 101]⟩, .string ⟨#[99, 117, 116]⟩, .string ⟨#[99, 114, 97, 115, 104]⟩] 9 (0, 0)), blkK X (.cells #[.int .i64 0, .int .i64 0, .slice none 0 0, .slice none 0 0] 40 (0, 0))]) (fun i _ => 5 - (intOf i).toNat)
  case atStart => exact ⟨0, Nat.zero_le _, rfl, f_2⟩
  case round =>
    clear f_2
    obtain ⟨j, hj, rfl, f⟩ := hrel
    by_cases hlt : j < 5
    · skip
      have k0 := hkeep.out wr f.low
      obtain ⟨y0, y1, y2, y3, z0, z1, z2, z3⟩ := blk4 f.blk
      have hK := f.rot1.blk
      have s0 : wr.cell? ⟨K, 0, none⟩ = some (.string ⟨#[115, 117, 98, 109, 105, 116]⟩) := Lib.cell_of_heap hK 0
      have s1 : wr.cell? ⟨K, 1, none⟩ = some (.string ⟨#[114, 117, 110]⟩) := Lib.cell_of_heap hK 1
      have s2 : wr.cell? ⟨K, 2, none⟩ = some (.string ⟨#[115, 97, 118, 101]⟩) := Lib.cell_of_heap hK 2
      have s3 : wr.cell? ⟨K, 3, none⟩ = some (.string ⟨#[99, 117, 116]⟩) := Lib.cell_of_heap hK 3
      have s4 : wr.cell? ⟨K, 4, none⟩ = some (.string ⟨#[99, 114, 97, 115, 104]⟩) := Lib.cell_of_heap hK 4
      clear hK
      obtain rfl | rfl | rfl | rfl | rfl : j = 0 ∨ j = 1 ∨ j = 2 ∨ j = 3 ∨ j = 4 := by omega
      · by_cases hm : x.data.toList = sSubmit
        · have hx : (x.toList == [115, 117, 98, 109, 105, 116]) = true := by rw [ByteArray.toList_eq, hm]; rfl
          have hu : kUp x.data.toList (0 + 1) = (0 : Int) + 1 := if_pos hm
          replace hu := hid hu
          go_wp2_with fail
          go_quiet (fail)
          go_wp2_with fail
          have f_3 := Fr.set (n := 0) (f.drewN nq) (.int .i64 (0 + 1))
          simp only [List.setIfInBounds_toArray, List.set_cons_zero] at f_3
          go_roundw
          case rel => exact ⟨0 + 1, by omega, by go_num, by rw [hu.out]; exact f_3⟩
          case measure => simp [intOf] <;> omega
        · have hx : (x.toList == [115, 117, 98, 109, 105, 116]) = false := by rw [ByteArray.toList_eq]; exact beq_eq_false_iff_ne.2 hm
          have hu : kUp x.data.toList (0 + 1) = kUp x.data.toList 0 := if_neg hm
          replace hu := hid hu
          go_wp2_with fail
          go_quiet (fail)
          go_wp2_with fail
          go_roundw
          case rel => exact ⟨0 + 1, by omega, by go_num, by rw [hu.out]; exact (f.drewN nq)⟩
          case measure => simp [intOf] <;> omega
      · by_cases hm : x.data.toList = sRun
        · have hx : (x.toList == [114, 117, 110]) = true := by rw [ByteArray.toList_eq, hm]; rfl
          have hu : kUp x.data.toList (1 + 1) = (1 : Int) + 1 := if_pos hm
          replace hu := hid hu
          go_wp2_with fail
          go_quiet (fail)
          go_wp2_with fail
          have f_3 := Fr.set (n := 0) (f.drewN nq) (.int .i64 (1 + 1))
          simp only [List.setIfInBounds_toArray, List.set_cons_zero] at f_3
          go_roundw
          case rel => exact ⟨1 + 1, by omega, by go_num, by rw [hu.out]; exact f_3⟩
          case measure => simp [intOf] <;> omega
        · have hx : (x.toList == [114, 117, 110]) = false := by rw [ByteArray.toList_eq]; exact beq_eq_false_iff_ne.2 hm
          have hu : kUp x.data.toList (1 + 1) = kUp x.data.toList 1 := if_neg hm
          replace hu := hid hu
          go_wp2_with fail
          go_quiet (fail)
          go_wp2_with fail
          go_roundw
          case rel => exact ⟨1 + 1, by omega, by go_num, by rw [hu.out]; exact (f.drewN nq)⟩
          case measure => simp [intOf] <;> omega
      · by_cases hm : x.data.toList = sSave
        · have hx : (x.toList == [115, 97, 118, 101]) = true := by rw [ByteArray.toList_eq, hm]; rfl
          have hu : kUp x.data.toList (2 + 1) = (2 : Int) + 1 := if_pos hm
          replace hu := hid hu
          go_wp2_with fail
          go_quiet (fail)
          go_wp2_with fail
          have f_3 := Fr.set (n := 0) (f.drewN nq) (.int .i64 (2 + 1))
          simp only [List.setIfInBounds_toArray, List.set_cons_zero] at f_3
          go_roundw
          case rel => exact ⟨2 + 1, by omega, by go_num, by rw [hu.out]; exact f_3⟩
          case measure => simp [intOf] <;> omega
        · have hx : (x.toList == [115, 97, 118, 101]) = false := by rw [ByteArray.toList_eq]; exact beq_eq_false_iff_ne.2 hm
          have hu : kUp x.data.toList (2 + 1) = kUp x.data.toList 2 := if_neg hm
          replace hu := hid hu
          go_wp2_with fail
          go_quiet (fail)
          go_wp2_with fail
          go_roundw
          case rel => exact ⟨2 + 1, by omega, by go_num, by rw [hu.out]; exact (f.drewN nq)⟩
          case measure => simp [intOf] <;> omega
      · by_cases hm : x.data.toList = sCut
        · have hx : (x.toList == [99, 117, 116]) = true := by rw [ByteArray.toList_eq, hm]; rfl
          have hu : kUp x.data.toList (3 + 1) = (3 : Int) + 1 := if_pos hm
          replace hu := hid hu
          go_wp2_with fail
          go_quiet (fail)
          go_wp2_with fail
          have f_3 := Fr.set (n := 0) (f.drewN nq) (.int .i64 (3 + 1))
          simp only [List.setIfInBounds_toArray, List.set_cons_zero] at f_3
          go_roundw
          case rel => exact ⟨3 + 1, by omega, by go_num, by rw [hu.out]; exact f_3⟩
          case measure => simp [intOf] <;> omega
        · have hx : (x.toList == [99, 117, 116]) = false := by rw [ByteArray.toList_eq]; exact beq_eq_false_iff_ne.2 hm
          have hu : kUp x.data.toList (3 + 1) = kUp x.data.toList 3 := if_neg hm
          replace hu := hid hu
          go_wp2_with fail
          go_quiet (fail)
          go_wp2_with fail
          go_roundw
          case rel => exact ⟨3 + 1, by omega, by go_num, by rw [hu.out]; exact (f.drewN nq)⟩
          case measure => simp [intOf] <;> omega
      · by_cases hm : x.data.toList = sCrash
        · have hx : (x.toList == [99, 114, 97, 115, 104]) = true := by rw [ByteArray.toList_eq, hm]; rfl
          have hu : kUp x.data.toList (4 + 1) = (4 : Int) + 1 := if_pos hm
          replace hu := hid hu
          go_wp2_with fail
          go_quiet (fail)
          go_wp2_with fail
          have f_3 := Fr.set (n := 0) (f.drewN nq) (.int .i64 (4 + 1))
          simp only [List.setIfInBounds_toArray, List.set_cons_zero] at f_3
          go_roundw
          case rel => exact ⟨4 + 1, by omega, by go_num, by rw [hu.out]; exact f_3⟩
          case measure => simp [intOf] <;> omega
        · have hx : (x.toList == [99, 114, 97, 115, 104]) = false := by rw [ByteArray.toList_eq]; exact beq_eq_false_iff_ne.2 hm
          have hu : kUp x.data.toList (4 + 1) = kUp x.data.toList 4 := if_neg hm
          replace hu := hid hu
          go_wp2_with fail
          go_quiet (fail)
          go_wp2_with fail
          go_roundw
          case rel => exact ⟨4 + 1, by omega, by go_num, by rw [hu.out]; exact (f.drewN nq)⟩
          case measure => simp [intOf] <;> omega
    · have hje : j = 5 := by omega
      subst hje
      rw [kUp_end] at f
      have f_3 := (f.sub (ks' := [_, _]) (List.Sublist.cons_cons _ (List.sublist_cons_self _ _))).nilRow 3 1
      clear f
      have hkI := hid (kind_i64 x.data.toList)
      generalize kindOf x.data.toList = k at *
      have hWl : (wordL ws).length + 1 = N := by rw [hN.out]; unfold wordL; simp
      have hstart := hid (rd_start (decide (k = 5)) (wordL ws))
      replace hWl := hid hWl
      obtain ⟨i0, zz, hi0, hz0, hs0, hb0, hcc0⟩ := info_int
      go_wp2_with fail
      go_loopw [7, 8] (fun v i wr => ∃ (q m : Nat) (ls : List Int) (B : Option Addr) (d : Nat), q = m + 1 ∧ q ≤ N ∧ i = .int .i64 q ∧ v = .slice B m d ∧ Hid (ls.length = m ∧ RdInv (decide (k = 5)) (wordL ws) m ls ∧ ∀ u ∈ ls, I64 u) ∧
        Fr none (fun _ => True) w wr [rowK w 3 1 (.slice B m d) m (ls.flatMap intC), blkK Y (.cells #[.int .i64 k, .int .i64 0, .slice none 0 0, .slice none 0 0] 40 (0, 0)), blkK X (.cells #[.int .i64 0, .int .i64 0, .slice none 0 0, .slice none 0 0] 40 (0, 0))]) (fun _ i _ => N - (intOf i).toNat)
      case atStart => exact ⟨1, 0, [], none, 0, rfl, by have := hWl.out; omega, rfl, rfl, ⟨rfl, hstart.out, fun u hu => by cases hu⟩, f_3⟩
      case round =>
        clear f_3 hstart
        obtain ⟨q, m, ls, B, d, hqm, hqN, rfl, rfl, hI, f⟩ := hrel
        by_cases hlt : q < N
        · skip
          have hml : m < ws.length := by have := hN.out; omega
          have hml2 : m < (wordL ws).length := by unfold wordL; simpa using hml
          obtain ⟨b1, o1, hA, -, -, hcl⟩ := hW.out wr f.low (m + 1) (by simpa using hml)
          injection hA with hA
          injection hA with hA1 hA2
          subst hA1 hA2
          have hcl2 : wr.cell? ⟨wb, wo + (m + 1), none⟩ = some (.string ws[m]) := by rw [Nat.mul_one] at hcl; exact hcl
          rw [← hqm] at hcl2
          clear hcl
          replace hqm := hid hqm
          have hget : (wordL ws)[m]'hml2 = ws[m].data.toList := by simp [wordL]
          have hno := fun h => rd_none hI.out.2.1 hml2 (by rw [hget]; exact h)
          have hso := fun v h => rd_some (v := v) hI.out.2.1 hml2 (by rw [hget]; exact h)
          have hys := hs ws[m] (List.mem_cons_of_mem _ (List.getElem_mem hml))
          generalize ws[m] = y at *
          have hrd := hid (rread_any y wr hys)
          replace hno := hid hno
          replace hso := hid hso
          clear hget hml2
          have hq0 : (0 : Int) ≤ (q : Int) := by omega
          have hq1 : (q : Int) < (N : Int) := by omega
          obtain ⟨y0, y1, y2, y3, yz0, yz1, yz2, yz3⟩ := blk4 f.rot1.blk
          obtain ⟨x0, x1, x2, x3, xz0, xz1, xz2, xz3⟩ := blk4 f.rot2.blk
          by_cases hk5 : k = 5
          · subst hk5
            by_cases hm0 : m = 0
            · have hqq : ((q : Int) == 1) = true := by rw [hqm.out, hm0]; rfl
              have hq2 : ¬ (1 : Int) < (q : Int) := by have := hqm.out; omega
              replace hm0 := hid hm0
              by_cases hd : y.data.toList = [45]
              · have hx : (y.toList == [45]) = true := by rw [ByteArray.toList_eq, hd]; rfl
                go_wp2_with fail
                refine hrd.out.mono ?_
                rintro r w1 ⟨rfl, v, hv, rfl, hval⟩
                have hin := hid (hso.out (-1) (by rw [hd, hm0.out]; decide))
                have hv64 : I64 (-1) := by unfold I64; omega
                clear hno hso
                have f_1 := f.alloc (.cells #[.int .i64 (-1)] 3)
                go_wp2_with (at_builtin; refine Fr.wpApp f_1 rfl _ _ _ rfl Tryd.underlying38 hi0 hz0 hs0 hb0 hcc0 (by decide) rfl rfl rfl int_one (by decide) (by unfold maxLen; omega) (by omega) ?_; intro G cap w2 f_2)
                have f_3 := f_2.sub (List.Sublist.cons_cons _ (List.sublist_cons_self _ _))
                go_roundw
                case rel =>
                  refine ⟨_, .slice (some ⟨G, 0, none⟩) (m + 1) cap, .int .i64 ((q : Int) + 1), ⟨q + 1, m + 1, by have := hqm.out; omega, by omega, by go_num, ls ++ [-1], _, _, rfl, ⟨by simp [hI.out.1], by first | exact hin.out | simpa [hk5] using hin.out, fun u hu => ?_⟩, by simpa [intC] using f_3⟩, rfl, rfl, rfl⟩
                  rcases List.mem_append.1 hu with hu | hu
                  · exact hI.out.2.2 u hu
                  · rw [List.mem_singleton.1 hu]; exact hv64
                case measure => simp [intOf]; omega
              · have hx : (y.toList == [45]) = false := by rw [ByteArray.toList_eq]; exact beq_eq_false_iff_ne.2 hd
                go_wp2_with fail
                refine hrd.out.mono ?_
                rintro r w1 ⟨rfl, v, hv, rfl, hval⟩
                cases hp : numP y.data.toList with
                | none =>
                  simp only [Option.isSome_none]
                  have hz2 := hno.out (by unfold rdOne; simp [hp, hd])
                  have hpn : po = none := by rw [hpo.out, hz2]
                  replace hpn := hid hpn
                  clear hz2 hno hso
                  go_wp2_with fail
                  have f_q := Fr.set4 (f.rot2) (.int .i64 5) (.int .i64 0) (.slice none 0 0) (.slice none 0 0)
                  generalize ((((wr.setCell ⟨X, 0, none⟩ (.int .i64 5)).setCell ⟨X, 1, none⟩ (.int .i64 0)).setCell ⟨X, 2, none⟩ (.slice none 0 0)).setCell ⟨X, 3, none⟩ (.slice none 0 0)) = Wq at *
                  obtain ⟨r0, r1, r2, r3, -⟩ := blk4 f_q.blk
                  try simp only [Exit.inBlock, Exit.then]
                  refine bodyPost_ret (v := .tuple #[.agg #[.int .i64 5, .int .i64 0, .slice none 0 0, .slice none 0 0], .bool false]) (by simp [results, Tryd.results38, go_sem, r0, r1, r2, r3]) rfl ⟨f_q.low, ?_⟩
                  exact ⟨⟨5, 0, [], []⟩, ⟨none, 0⟩, ⟨none, 0⟩, false, rfl, ev_bare hkI.out hz, (fun y h => by rw [hpn.out] at h; cases h), fun _ => rfl⟩
                | some u =>
                  obtain rfl := hval u hp
                  simp only [Option.isSome_some]
                  by_cases hv0 : v < 0
                  · skip
                    have hz2 := hno.out (by unfold rdOne; simp [hp, hv0, hd])
                    have hpn : po = none := by rw [hpo.out, hz2]
                    replace hpn := hid hpn
                    clear hz2 hno hso
                    go_wp2_with fail
                    have f_q := Fr.set4 (f.rot2) (.int .i64 5) (.int .i64 0) (.slice none 0 0) (.slice none 0 0)
                    generalize ((((wr.setCell ⟨X, 0, none⟩ (.int .i64 5)).setCell ⟨X, 1, none⟩ (.int .i64 0)).setCell ⟨X, 2, none⟩ (.slice none 0 0)).setCell ⟨X, 3, none⟩ (.slice none 0 0)) = Wq at *
                    obtain ⟨r0, r1, r2, r3, -⟩ := blk4 f_q.blk
                    try simp only [Exit.inBlock, Exit.then]
                    refine bodyPost_ret (v := .tuple #[.agg #[.int .i64 5, .int .i64 0, .slice none 0 0, .slice none 0 0], .bool false]) (by simp [results, Tryd.results38, go_sem, r0, r1, r2, r3]) rfl ⟨f_q.low, ?_⟩
                    exact ⟨⟨5, 0, [], []⟩, ⟨none, 0⟩, ⟨none, 0⟩, false, rfl, ev_bare hkI.out hz, (fun y h => by rw [hpn.out] at h; cases h), fun _ => rfl⟩
                  · skip
                    have hin := hid (hso.out (v) (by unfold rdOne; simp [hp, hv0, hm0.out, hd]))
                    have hv64 : I64 (v) := hv
                    clear hno hso
                    have f_1 := f.alloc (.cells #[.int .i64 (v)] 3)
                    go_wp2_with (at_builtin; refine Fr.wpApp f_1 rfl _ _ _ rfl Tryd.underlying38 hi0 hz0 hs0 hb0 hcc0 (by decide) rfl rfl rfl int_one (by decide) (by unfold maxLen; omega) (by omega) ?_; intro G cap w2 f_2)
                    have f_3 := f_2.sub (List.Sublist.cons_cons _ (List.sublist_cons_self _ _))
                    go_roundw
                    case rel =>
                      refine ⟨_, .slice (some ⟨G, 0, none⟩) (m + 1) cap, .int .i64 ((q : Int) + 1), ⟨q + 1, m + 1, by have := hqm.out; omega, by omega, by go_num, ls ++ [v], _, _, rfl, ⟨by simp [hI.out.1], by first | exact hin.out | simpa [hk5] using hin.out, fun u hu => ?_⟩, by simpa [intC] using f_3⟩, rfl, rfl, rfl⟩
                      rcases List.mem_append.1 hu with hu | hu
                      · exact hI.out.2.2 u hu
                      · rw [List.mem_singleton.1 hu]; exact hv64
                    case measure => simp [intOf]; omega
            · have hqq : ((q : Int) == 1) = false := beq_eq_false_iff_ne.2 (by have := hqm.out; omega)
              have hq2 : (1 : Int) < (q : Int) := by have := hqm.out; omega
              replace hm0 := hid hm0
              go_wp2_with fail
              refine hrd.out.mono ?_
              rintro r w1 ⟨rfl, v, hv, rfl, hval⟩
              cases hp : numP y.data.toList with
              | none =>
                simp only [Option.isSome_none]
                have hz2 := hno.out (by unfold rdOne; simp [hp, hm0.out])
                have hpn : po = none := by rw [hpo.out, hz2]
                replace hpn := hid hpn
                clear hz2 hno hso
                go_wp2_with fail
                have f_q := Fr.set4 (f.rot2) (.int .i64 5) (.int .i64 0) (.slice none 0 0) (.slice none 0 0)
                generalize ((((wr.setCell ⟨X, 0, none⟩ (.int .i64 5)).setCell ⟨X, 1, none⟩ (.int .i64 0)).setCell ⟨X, 2, none⟩ (.slice none 0 0)).setCell ⟨X, 3, none⟩ (.slice none 0 0)) = Wq at *
                obtain ⟨r0, r1, r2, r3, -⟩ := blk4 f_q.blk
                try simp only [Exit.inBlock, Exit.then]
                refine bodyPost_ret (v := .tuple #[.agg #[.int .i64 5, .int .i64 0, .slice none 0 0, .slice none 0 0], .bool false]) (by simp [results, Tryd.results38, go_sem, r0, r1, r2, r3]) rfl ⟨f_q.low, ?_⟩
                exact ⟨⟨5, 0, [], []⟩, ⟨none, 0⟩, ⟨none, 0⟩, false, rfl, ev_bare hkI.out hz, (fun y h => by rw [hpn.out] at h; cases h), fun _ => rfl⟩
              | some u =>
                obtain rfl := hval u hp
                simp only [Option.isSome_some]
                by_cases hv0 : v < 0
                · skip
                  have hz2 := hno.out (by unfold rdOne; simp [hp, hv0, hm0.out])
                  have hpn : po = none := by rw [hpo.out, hz2]
                  replace hpn := hid hpn
                  clear hz2 hno hso
                  go_wp2_with fail
                  have f_q := Fr.set4 (f.rot2) (.int .i64 5) (.int .i64 0) (.slice none 0 0) (.slice none 0 0)
                  generalize ((((wr.setCell ⟨X, 0, none⟩ (.int .i64 5)).setCell ⟨X, 1, none⟩ (.int .i64 0)).setCell ⟨X, 2, none⟩ (.slice none 0 0)).setCell ⟨X, 3, none⟩ (.slice none 0 0)) = Wq at *
                  obtain ⟨r0, r1, r2, r3, -⟩ := blk4 f_q.blk
                  try simp only [Exit.inBlock, Exit.then]
                  refine bodyPost_ret (v := .tuple #[.agg #[.int .i64 5, .int .i64 0, .slice none 0 0, .slice none 0 0], .bool false]) (by simp [results, Tryd.results38, go_sem, r0, r1, r2, r3]) rfl ⟨f_q.low, ?_⟩
                  exact ⟨⟨5, 0, [], []⟩, ⟨none, 0⟩, ⟨none, 0⟩, false, rfl, ev_bare hkI.out hz, (fun y h => by rw [hpn.out] at h; cases h), fun _ => rfl⟩
                · by_cases hv1 : 255 < v
                  · skip
                    have hz2 := hno.out (by unfold rdOne; simp [hp, hv0, hv1, hm0.out])
                    have hpn : po = none := by rw [hpo.out, hz2]
                    replace hpn := hid hpn
                    clear hz2 hno hso
                    go_wp2_with fail
                    have f_q := Fr.set4 (f.rot2) (.int .i64 5) (.int .i64 0) (.slice none 0 0) (.slice none 0 0)
                    generalize ((((wr.setCell ⟨X, 0, none⟩ (.int .i64 5)).setCell ⟨X, 1, none⟩ (.int .i64 0)).setCell ⟨X, 2, none⟩ (.slice none 0 0)).setCell ⟨X, 3, none⟩ (.slice none 0 0)) = Wq at *
                    obtain ⟨r0, r1, r2, r3, -⟩ := blk4 f_q.blk
                    try simp only [Exit.inBlock, Exit.then]
                    refine bodyPost_ret (v := .tuple #[.agg #[.int .i64 5, .int .i64 0, .slice none 0 0, .slice none 0 0], .bool false]) (by simp [results, Tryd.results38, go_sem, r0, r1, r2, r3]) rfl ⟨f_q.low, ?_⟩
                    exact ⟨⟨5, 0, [], []⟩, ⟨none, 0⟩, ⟨none, 0⟩, false, rfl, ev_bare hkI.out hz, (fun y h => by rw [hpn.out] at h; cases h), fun _ => rfl⟩
                  · skip
                    have hin := hid (hso.out (v) (by unfold rdOne; simp [hp, hv0, hv1, hm0.out]))
                    have hv64 : I64 (v) := hv
                    clear hno hso
                    have f_1 := f.alloc (.cells #[.int .i64 (v)] 3)
                    go_wp2_with (at_builtin; refine Fr.wpApp f_1 rfl _ _ _ rfl Tryd.underlying38 hi0 hz0 hs0 hb0 hcc0 (by decide) rfl rfl rfl int_one (by decide) (by unfold maxLen; omega) (by omega) ?_; intro G cap w2 f_2)
                    have f_3 := f_2.sub (List.Sublist.cons_cons _ (List.sublist_cons_self _ _))
                    go_roundw
                    case rel =>
                      refine ⟨_, .slice (some ⟨G, 0, none⟩) (m + 1) cap, .int .i64 ((q : Int) + 1), ⟨q + 1, m + 1, by have := hqm.out; omega, by omega, by go_num, ls ++ [v], _, _, rfl, ⟨by simp [hI.out.1], by first | exact hin.out | simpa [hk5] using hin.out, fun u hu => ?_⟩, by simpa [intC] using f_3⟩, rfl, rfl, rfl⟩
                      rcases List.mem_append.1 hu with hu | hu
                      · exact hI.out.2.2 u hu
                      · rw [List.mem_singleton.1 hu]; exact hv64
                    case measure => simp [intOf]; omega
          · have hkk : ((k : Int) == 5) = false := beq_eq_false_iff_ne.2 hk5
            go_wp2_with fail
            refine hrd.out.mono ?_
            rintro r w1 ⟨rfl, v, hv, rfl, hval⟩
            cases hp : numP y.data.toList with
            | none =>
              simp only [Option.isSome_none]
              have hz2 := hno.out (by rw [decide_eq_false hk5, rd_one]; exact hp)
              have hpn : po = none := by rw [hpo.out, hz2]
              replace hpn := hid hpn
              clear hz2 hno hso
              go_wp2_with fail
              have f_q := Fr.set4 (f.rot2) (.int .i64 k) (.int .i64 0) (.slice none 0 0) (.slice none 0 0)
              generalize ((((wr.setCell ⟨X, 0, none⟩ (.int .i64 k)).setCell ⟨X, 1, none⟩ (.int .i64 0)).setCell ⟨X, 2, none⟩ (.slice none 0 0)).setCell ⟨X, 3, none⟩ (.slice none 0 0)) = Wq at *
              obtain ⟨r0, r1, r2, r3, -⟩ := blk4 f_q.blk
              try simp only [Exit.inBlock, Exit.then]
              refine bodyPost_ret (v := .tuple #[.agg #[.int .i64 k, .int .i64 0, .slice none 0 0, .slice none 0 0], .bool false]) (by simp [results, Tryd.results38, go_sem, r0, r1, r2, r3]) rfl ⟨f_q.low, ?_⟩
              exact ⟨⟨k, 0, [], []⟩, ⟨none, 0⟩, ⟨none, 0⟩, false, rfl, ev_bare hkI.out hz, (fun y h => by rw [hpn.out] at h; cases h), fun _ => rfl⟩
            | some u =>
              obtain rfl := hval u hp
              simp only [Option.isSome_some]
              have hin := hid (hso.out (v) (by rw [decide_eq_false hk5, rd_one]; exact hp))
              have hv64 : I64 (v) := hv
              clear hno hso
              have f_1 := f.alloc (.cells #[.int .i64 (v)] 3)
              go_wp2_with (at_builtin; refine Fr.wpApp f_1 rfl _ _ _ rfl Tryd.underlying38 hi0 hz0 hs0 hb0 hcc0 (by decide) rfl rfl rfl int_one (by decide) (by unfold maxLen; omega) (by omega) ?_; intro G cap w2 f_2)
              have f_3 := f_2.sub (List.Sublist.cons_cons _ (List.sublist_cons_self _ _))
              go_roundw
              case rel =>
                refine ⟨_, .slice (some ⟨G, 0, none⟩) (m + 1) cap, .int .i64 ((q : Int) + 1), ⟨q + 1, m + 1, by have := hqm.out; omega, by omega, by go_num, ls ++ [v], _, _, rfl, ⟨by simp [hI.out.1], by first | exact hin.out | simpa [hk5] using hin.out, fun u hu => ?_⟩, by simpa [intC] using f_3⟩, rfl, rfl, rfl⟩
                rcases List.mem_append.1 hu with hu | hu
                · exact hI.out.2.2 u hu
                · rw [List.mem_singleton.1 hu]; exact hv64
              case measure => simp [intOf]; omega
        · have hqe : q = N := by omega
          have hlm := hI.out.1
          have hm7 : m ≤ 20000000 := by have := hN.out; omega
          have hWm : m = (wordL ws).length := by have := hWl.out; omega
          have hdn := hI.out.2.1
          have h64 := hid hI.out.2.2
          rw [hWm] at hdn
          have hrd := rd_done hdn
          have hend := hpo.out
          rw [hrd] at hend
          replace hend := hid (show po = evEnd k ls from hend)
          replace hrd := hid hrd
          clear hdn hWm hpo hI hWl hkeep hW hs hN
          subst hqe
          replace hqm := hid hqm
          have hm1 : (m : Int) ≤ 9223372036854775807 := by have := hqm.out; omega
          have hm0 : (0 : Int) ≤ (m : Int) := by omega
          obtain ⟨y0, y1, y2, y3, yz0, yz1, yz2, yz3⟩ := blk4 f.rot1.blk
          obtain ⟨x0, x1, x2, x3, xz0, xz1, xz2, xz3⟩ := blk4 f.rot2.blk
          by_cases hk1 : k = 1
          · subst hk1
            go_upto_region 20 with fail
            have f_1 := Fr.set (n := 2) f.rot1 (.slice B m d)
            simp only [List.setIfInBounds_toArray, List.set_cons_zero, List.set_cons_succ] at f_1
            clear y0 y1 y2 y3 yz0 yz1 yz2 yz3 x0 x1 x2 x3 xz0 xz1 xz2 xz3
            generalize wr.setCell ⟨Y, 2, none⟩ (.slice B m d) = W3 at *
            have hev := hid (end_1 hlm hend.out)
            clear hend
            have hsH := hid f_1
            obtain ⟨y0, y1, y2, y3, -⟩ := blk4 f_1.blk
            obtain ⟨x0, x1, x2, x3, xz0, xz1, xz2, xz3⟩ := blk4 f_1.rot2.blk
            have f_x := Fr.set4 f_1.rot2 (.int .i64 1) (.int .i64 0) (.slice B m d) (.slice none 0 0)
            obtain ⟨ya0, ya1, ya2, ya3, -⟩ := blk4 f_x.rot1.blk
            have hxH := hid f_x
            clear f_x f_1
            have hRt := hid (fun W => right_ref 1 0 B none m 0 d 0 W (by unfold maxLen; omega) (by unfold maxLen; omega))
            go_region_with (go_at_call 17; (with_reducible refine (hRt.out _).mono ?_); rintro r W_r ⟨rfl, hb⟩; first | (have f_r := Fr.below (Fr.drew1 hsH.out) hb; obtain ⟨yr0, yr1, yr2, yr3, -⟩ := blk4 f_r.blk; obtain ⟨xr0, xr1, xr2, xr3, xs0, xs1, xs2, xs3⟩ := blk4 f_r.rot2.blk; have f_z := hid (Fr.set4 f_r.rot2 (.int .i64 1) (.int .i64 0) (.slice B m d) (.slice none 0 0)); clear f_r hb) | (have f_r := Fr.below (Fr.drew1 hxH.out) hb; obtain ⟨yr0, yr1, yr2, yr3, -⟩ := blk4 f_r.rot1.blk; have f_z := hid f_r; clear f_r hb))
            all_goals
              go_wp2_with fail
              have f_q := f_z.out
              obtain ⟨r0, r1, r2, r3, -⟩ := blk4 f_q.blk
              try simp only [Exit.inBlock, Exit.then]
              refine bodyPost_ret (v := .tuple #[.agg #[.int .i64 1, .int .i64 0, .slice B m d, .slice none 0 0], .bool (rightN 1 0 m 0)]) (by simp [results, Tryd.results38, go_sem, r0, r1, r2, r3]) rfl ⟨f_q.low, ?_⟩
              exact ⟨⟨1, 0, ls, []⟩, ⟨B, d⟩, ⟨none, 0⟩, _, by simp only [EvE.val, Sl.v, hlm]; rfl, Fr.evRow f_q.rot2 hlm h64.out (by unfold I64; omega), hev.out.1, hev.out.2⟩
          · by_cases hk3 : k = 3
            · subst hk3
              have he3 := end_3 hlm hend.out
              clear hend hk1
              by_cases hmz : m = 0
              · subst hmz
                have hpv := hid (he3.trans (if_pos rfl))
                clear he3
                go_wp2_with fail
                have f_q := Fr.set4 (f.rot2) (.int .i64 3) (.int .i64 0) (.slice none 0 0) (.slice none 0 0)
                generalize ((((wr.setCell ⟨X, 0, none⟩ (.int .i64 3)).setCell ⟨X, 1, none⟩ (.int .i64 0)).setCell ⟨X, 2, none⟩ (.slice none 0 0)).setCell ⟨X, 3, none⟩ (.slice none 0 0)) = Wq at *
                obtain ⟨r0, r1, r2, r3, -⟩ := blk4 f_q.blk
                try simp only [Exit.inBlock, Exit.then]
                refine bodyPost_ret (v := .tuple #[.agg #[.int .i64 3, .int .i64 0, .slice none 0 0, .slice none 0 0], .bool true]) (by simp [results, Tryd.results38, go_sem, r0, r1, r2, r3]) rfl ⟨f_q.low, ?_⟩
                exact ⟨⟨3, 0, [], []⟩, ⟨none, 0⟩, ⟨none, 0⟩, true, rfl, ev_bare hkI.out hz, (fun y h => by rw [hpv.out] at h; injection h with h; exact ⟨rfl, h⟩), (fun h => by rw [hpv.out] at h; cases h)⟩
              · have hpv := hid (he3.trans (if_neg hmz))
                have hmb : ((m : Int) == 0) = false := beq_eq_false_iff_ne.2 (by omega)
                clear he3
                go_wp2_with fail
                have f_q := Fr.set4 (f.rot2) (.int .i64 3) (.int .i64 0) (.slice none 0 0) (.slice none 0 0)
                generalize ((((wr.setCell ⟨X, 0, none⟩ (.int .i64 3)).setCell ⟨X, 1, none⟩ (.int .i64 0)).setCell ⟨X, 2, none⟩ (.slice none 0 0)).setCell ⟨X, 3, none⟩ (.slice none 0 0)) = Wq at *
                obtain ⟨r0, r1, r2, r3, -⟩ := blk4 f_q.blk
                try simp only [Exit.inBlock, Exit.then]
                refine bodyPost_ret (v := .tuple #[.agg #[.int .i64 3, .int .i64 0, .slice none 0 0, .slice none 0 0], .bool false]) (by simp [results, Tryd.results38, go_sem, r0, r1, r2, r3]) rfl ⟨f_q.low, ?_⟩
                exact ⟨⟨3, 0, [], []⟩, ⟨none, 0⟩, ⟨none, 0⟩, false, rfl, ev_bare hkI.out hz, (fun y h => by rw [hpv.out] at h; cases h), fun _ => rfl⟩
            · have hb1 : ((k : Int) == 1) = false := beq_eq_false_iff_ne.2 hk1
              have hb3 : ((k : Int) == 3) = false := beq_eq_false_iff_ne.2 hk3
              go_upto_region 23 with fail
              by_cases hbad : m = 0 ∨ (k ≠ 5 ∧ 1 < m)
              · have hpv := hid (end_bad hlm hend.out hk1 hk3 hbad)
                clear hend hrd
                rcases hbad with hmz | ⟨hk5, hmg⟩
                · subst hmz
                  go_wp2_with fail
                  have f_q := Fr.set4 (f.rot2) (.int .i64 k) (.int .i64 0) (.slice none 0 0) (.slice none 0 0)
                  generalize ((((wr.setCell ⟨X, 0, none⟩ (.int .i64 k)).setCell ⟨X, 1, none⟩ (.int .i64 0)).setCell ⟨X, 2, none⟩ (.slice none 0 0)).setCell ⟨X, 3, none⟩ (.slice none 0 0)) = Wq at *
                  obtain ⟨r0, r1, r2, r3, -⟩ := blk4 f_q.blk
                  try simp only [Exit.inBlock, Exit.then]
                  refine bodyPost_ret (v := .tuple #[.agg #[.int .i64 k, .int .i64 0, .slice none 0 0, .slice none 0 0], .bool false]) (by simp [results, Tryd.results38, go_sem, r0, r1, r2, r3]) rfl ⟨f_q.low, ?_⟩
                  exact ⟨⟨k, 0, [], []⟩, ⟨none, 0⟩, ⟨none, 0⟩, false, rfl, ev_bare hkI.out hz, (fun y h => by rw [hpv.out] at h; cases h), fun _ => rfl⟩
                · have hb5 : ((k : Int) == 5) = false := beq_eq_false_iff_ne.2 hk5
                  have hmb : ((m : Int) == 0) = false := beq_eq_false_iff_ne.2 (by omega)
                  have hmg2 : (1 : Int) < (m : Int) := by omega
                  go_wp2_with fail
                  have f_q := Fr.set4 (f.rot2) (.int .i64 k) (.int .i64 0) (.slice none 0 0) (.slice none 0 0)
                  generalize ((((wr.setCell ⟨X, 0, none⟩ (.int .i64 k)).setCell ⟨X, 1, none⟩ (.int .i64 0)).setCell ⟨X, 2, none⟩ (.slice none 0 0)).setCell ⟨X, 3, none⟩ (.slice none 0 0)) = Wq at *
                  obtain ⟨r0, r1, r2, r3, -⟩ := blk4 f_q.blk
                  try simp only [Exit.inBlock, Exit.then]
                  refine bodyPost_ret (v := .tuple #[.agg #[.int .i64 k, .int .i64 0, .slice none 0 0, .slice none 0 0], .bool false]) (by simp [results, Tryd.results38, go_sem, r0, r1, r2, r3]) rfl ⟨f_q.low, ?_⟩
                  exact ⟨⟨k, 0, [], []⟩, ⟨none, 0⟩, ⟨none, 0⟩, false, rfl, ev_bare hkI.out hz, (fun y h => by rw [hpv.out] at h; cases h), fun _ => rfl⟩
              · have hmz : m ≠ 0 := fun h => hbad (.inl h)
                have hmb : ((m : Int) == 0) = false := beq_eq_false_iff_ne.2 (by omega)
                have hone : ¬ (k ≠ 5 ∧ 1 < m) := fun h => hbad (.inr h)
                obtain ⟨v, tl, rfl⟩ : ∃ v tl, ls = v :: tl := by
                  cases ls with
                  | nil => exact absurd hlm (by simp; omega)
                  | cons v tl => exact ⟨v, tl, rfl⟩
                have hokB := hid (show ∀ u ∈ tl, 0 ≤ u ∧ u ≤ 255 by
                  by_cases hk5 : k = 5
                  · subst hk5
                    exact rd_okB hrd.out
                  · intro u hu
                    have : tl ≠ [] := fun h => by rw [h] at hu; cases hu
                    have := List.length_pos_iff.2 this
                    simp at hlm
                    omega)
                have htl : tl.length = m - 1 := by simp at hlm; omega
                have hev := hid (end_go htl hend.out hk1 hk3 (by rw [show m - 1 + 1 = m by omega]; exact hone))
                have hv64 := hid (h64.out v (List.mem_cons_self ..))
                clear hrd hend hbad
                obtain ⟨b1, o1, rfl, hce⟩ := own_ints hlm f.head.q (j := 0) (by simp)
                rw [Nat.zero_mul, Nat.add_zero, List.getElem_cons_zero] at hce
                have hm2 : (0 : Int) < (m : Int) := by omega
                go_cut [113] from 101 to 113 (fun u wx => u = .bool false ∧ Fr none (fun _ => True) w wx [rowK w 3 1 (.slice (some ⟨b1, o1, none⟩) m d) m ((v :: tl).flatMap intC), blkK Y (.cells #[.int .i64 k, .int .i64 0, .slice none 0 0, .slice none 0 0] 40 (0, 0)), blkK X (.cells #[.int .i64 0, .int .i64 0, .slice none 0 0, .slice none 0 0] 40 (0, 0))])
                case first =>
                  by_cases hk5 : k = 5
                  · subst hk5
                    go_wp2_with fail
                    go_meet
                    case rel => exact ⟨rfl, f⟩
                  · have hb5 : ((k : Int) == 5) = false := beq_eq_false_iff_ne.2 hk5
                    have hmg2 : ¬ (1 : Int) < (m : Int) := by omega
                    go_wp2_with fail
                    go_meet
                    case rel => exact ⟨rfl, f⟩
                case rest =>
                obtain ⟨rfl, f_1⟩ := hcut
                clear f y0 y1 y2 y3 yz0 yz1 yz2 yz3 x0 x1 x2 x3 xz0 xz1 xz2 xz3 hce
                rename_i wc
                obtain ⟨b2, o2, hA, hce⟩ := own_ints hlm f_1.head.q (j := 0) (by simp)
                injection hA with hA
                injection hA with hA1 hA2
                subst hA1 hA2
                rw [Nat.zero_mul, Nat.add_zero, List.getElem_cons_zero] at hce
                obtain ⟨y0, y1, y2, y3, yz0, yz1, yz2, yz3⟩ := blk4 f_1.rot1.blk
                have f_2 := Fr.set (n := 1) f_1.rot1 (.int .i64 v)
                simp only [List.setIfInBounds_toArray, List.set_cons_zero, List.set_cons_succ] at f_2
                go_upto_region 26 with fail
                clear y0 y1 y2 y3 yz0 yz1 yz2 yz3 hce f_1
                generalize wc.setCell ⟨Y, 1, none⟩ (.int .i64 v) = W4 at *
                have f_3 := f_2.nilRow 5 1
                clear f_2
                obtain ⟨ib, zb, hib, hzb, hsb, hbb, hcb⟩ := info_byte
                go_wp2_with fail
                go_loopw [11] (fun i wr => ∃ (q2 t : Nat) (C : Option Addr) (e : Nat), q2 = t + 1 ∧ q2 ≤ m ∧ i = .int .i64 q2 ∧ Fr none (fun _ => True) w wr [rowK w 5 1 (.slice C t e) t (((tl.take t).map toB).flatMap byteC), blkK Y (.cells #[.int .i64 k, .int .i64 v, .slice none 0 0, .slice C t e] 40 (0, 0)), rowK w 3 1 (.slice (some ⟨b1, o1, none⟩) m d) m ((v :: tl).flatMap intC), blkK X (.cells #[.int .i64 0, .int .i64 0, .slice none 0 0, .slice none 0 0] 40 (0, 0))]) (fun i _ => m - (intOf i).toNat)
                case atStart => exact ⟨1, 0, none, 0, rfl, by omega, rfl, f_3⟩
                case round =>
                  clear f_3
                  obtain ⟨q2, t, C, e, hqt, hqm2, rfl, f⟩ := hrel
                  by_cases hlt : q2 < m
                  · have htlt : t < tl.length := by omega
                    obtain ⟨b2, o2, hA, hce⟩ := own_ints hlm f.rot2.head.q (j := t + 1) (by simp; omega)
                    injection hA with hA
                    injection hA with hA1 hA2
                    subst hA1 hA2
                    have f_1 := f.alloc (.cells #[.int .u8 (IntKind.u8.wrap tl[t])] 5)
                    obtain ⟨b2, o2, hA, hcx⟩ := own_ints hlm f_1.rot3.head.q (j := t + 1) (by simp; omega)
                    injection hA with hA
                    injection hA with hA1 hA2
                    subst hA1 hA2
                    rw [Nat.mul_one, List.getElem_cons_succ] at hce hcx
                    have hu := hokB.out tl[t] (List.getElem_mem htlt)
                    have htk := List.take_succ_eq_append_getElem htlt
                    generalize tl[t] = u at *
                    rw [← hqt] at hce hcx
                    obtain ⟨hu0, hu1⟩ := hu
                    have hwr : Hid (IntKind.u8.wrap u = u) := hid (by rw [IntKind.wrap_u8]; omega)
                    have hp := byte_push (bs := (tl.take t).map toB) hu0 hu1
                    rw [show (tl.take t).map toB ++ [toB u] = (tl.take (t + 1)).map toB by rw [htk, List.map_append]; rfl] at hp
                    clear htk
                    replace hqt := hid hqt
                    replace hp := hid hp
                    have hq0 : (0 : Int) ≤ (q2 : Int) := by omega
                    have hq1 : (q2 : Int) < (m : Int) := by omega
                    have htm : t + 1 ≤ m := by omega
                    obtain ⟨y0, y1, y2, y3, yz0, yz1, yz2, yz3⟩ := blk4 f.rot1.blk
                    obtain ⟨ya0, ya1, ya2, ya3, yb0, yb1, yb2, yb3⟩ := blk4 f_1.rot2.blk
                    go_upto_region 29 with fail
                    go_region_law (first | (refine Fr.stepApp (Fr.drew1 f_1) rfl _ _ _ rfl Tryd.underlying36 hib hzb hsb hbb hcb (by decide) rfl rfl rfl byte_one (by decide) (by unfold maxLen; omega) (by omega) ?_; intro G cap w2 f_a; obtain ⟨yc0, yc1, yc2, yc3, yd0, yd1, yd2, yd3⟩ := blk4 f_a.rot2.blk; have f_z := Fr.set (n := 3) f_a.rot2 (.slice (some ⟨G, 0, none⟩) (t + 1) cap); simp only [List.setIfInBounds_toArray, List.set_cons_zero, List.set_cons_succ] at f_z; have f_z := hid f_z))
                    all_goals
                      go_wp2_with fail
                      have f_y := f_z.out.rot1.sub (List.Sublist.cons_cons _ (List.Sublist.cons_cons _ (List.sublist_cons_self _ _)))
                      rw [hwr.out] at f_y
                      go_roundw
                      case rel => exact ⟨q2 + 1, t + 1, _, _, by rw [hqt.out], by omega, by go_num, by rw [← hp.out]; exact f_y⟩
                      case measure => simp [intOf]; omega
                  · have htm : t = tl.length := by omega
                    have hmt : m - 1 = t := by omega
                    have hqe : q2 = m := by omega
                    have htt : tl.take t = tl := by rw [htm, List.take_length]
                    rw [htt] at f
                    rw [hmt] at hev
                    have htn : (tl.map toB).length = t := by rw [List.length_map, htm]
                    subst hqe
                    replace hqt := hid hqt
                    replace htm := hid htm
                    replace hmt := hid hmt
                    have htx : t ≤ 20000000 := by have := hmt.out; omega
                    go_upto_region 30 with fail
                    have f_1 := (f.sub (ks' := [_, _, _]) (List.Sublist.cons_cons _ (List.Sublist.cons_cons _ (List.sublist_cons_self _ _)))).rot1
                    clear f
                    have hsH := hid f_1
                    obtain ⟨y0, y1, y2, y3, -⟩ := blk4 f_1.blk
                    obtain ⟨x0, x1, x2, x3, xz0, xz1, xz2, xz3⟩ := blk4 f_1.rot2.blk
                    have f_x := Fr.set4 f_1.rot2 (.int .i64 k) (.int .i64 v) (.slice none 0 0) (.slice C t e)
                    obtain ⟨ya0, ya1, ya2, ya3, -⟩ := blk4 f_x.rot1.blk
                    have hxH := hid f_x
                    clear f_x f_1
                    have hRt := hid (fun W => right_ref k v none C 0 t 0 e W (by unfold maxLen; omega) (by unfold maxLen; omega))
                    go_region_with (go_at_call 17; (with_reducible refine (hRt.out _).mono ?_); rintro r W_r ⟨rfl, hb⟩; first | (have f_r := Fr.below (Fr.drew1 hsH.out) hb; obtain ⟨yr0, yr1, yr2, yr3, -⟩ := blk4 f_r.blk; obtain ⟨xr0, xr1, xr2, xr3, xs0, xs1, xs2, xs3⟩ := blk4 f_r.rot2.blk; have f_z := hid (Fr.set4 f_r.rot2 (.int .i64 k) (.int .i64 v) (.slice none 0 0) (.slice C t e)); clear f_r hb) | (have f_r := Fr.below (Fr.drew1 hxH.out) hb; obtain ⟨yr0, yr1, yr2, yr3, -⟩ := blk4 f_r.rot1.blk; have f_z := hid f_r; clear f_r hb))
                    all_goals
                      go_wp2_with fail
                      have f_q := f_z.out
                      obtain ⟨r0, r1, r2, r3, -⟩ := blk4 f_q.blk
                      try simp only [Exit.inBlock, Exit.then]
                      refine bodyPost_ret (v := .tuple #[.agg #[.int .i64 k, .int .i64 v, .slice none 0 0, .slice C t e], .bool (rightN k v 0 t)]) (by simp [results, Tryd.results38, go_sem, r0, r1, r2, r3]) rfl ⟨f_q.low, ?_⟩
                      exact ⟨⟨k, v, [], tl.map toB⟩, ⟨none, 0⟩, ⟨C, e⟩, _, by simp only [EvE.val, Sl.v, htn]; rfl, Fr.evCh f_q.rot2 htn hkI.out hv64.out, hev.out.1, hev.out.2⟩
end Go.Proofs.YtmdnmodjdgcmjaaDoor
