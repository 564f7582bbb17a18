/-
  The walk of the statement ScriptMany.
-/
import Derived.Test.YtmdnmodjdgcmjaaDoorHLawScBack
import Derived.Test.YtmdnmodjdgcmjaaDoorHScMp
import Derived.Test.YtmdnmodjdgcmjaaDoorHAppZ
import Derived.OwnWalk
import Derived.Laws.IdiomStrings
namespace Go.Proofs.YtmdnmodjdgcmjaaDoor
open Go.RowKit

def zeroEv : LEv := ⟨⟨0, 0, [], []⟩, ⟨none, 0⟩, ⟨none, 0⟩⟩
def zeroVal : Value := .agg #[.int .i64 0, .int .i64 0, .slice none 0 0, .slice none 0 0]
theorem zero_flat : ∀ m, (Builtin.zeroCells zeroVal.cells m).toList = (List.replicate m zeroEv).flatMap LEv.cells
  | 0 => by simp [Builtin.zeroCells]
  | m + 1 => by
    have ih := zero_flat m
    unfold Builtin.zeroCells at ih ⊢
    rw [Array.toList_map, Array.toList_range] at ih ⊢
    rw [show (m + 1) * zeroVal.cells.size = m * zeroVal.cells.size + 4 by rw [Nat.add_mul]; rfl, List.range_add, List.map_append, ih, List.replicate_succ', List.flatMap_append]
    congr 1
    rw [List.map_map, show zeroVal.cells.size = 4 from rfl]
    have h : ∀ i, i < 4 → zeroVal.cells[(m * 4 + i) % 4]! = zeroVal.cells[i]! := fun i hi => by rw [show (m * 4 + i) % 4 = i by omega]
    show [zeroVal.cells[(m * 4 + 0) % 4]!, zeroVal.cells[(m * 4 + 1) % 4]!, zeroVal.cells[(m * 4 + 2) % 4]!, zeroVal.cells[(m * 4 + 3) % 4]!] = _
    rw [h 0 (by omega), h 1 (by omega), h 2 (by omega), h 3 (by omega)]
    rfl
theorem zero_one (m : Nat) : ∀ u ∈ (Builtin.zeroCells zeroVal.cells m).toList, u.oneCell' = true := by
  rw [zero_flat]
  intro u hu
  obtain ⟨x, hx, hu⟩ := List.mem_flatMap.1 hu
  rw [List.eq_of_mem_replicate hx] at hu
  simp only [LEv.cells, zeroEv, List.mem_cons, List.not_mem_nil, or_false] at hu
  rcases hu with rfl | rfl | rfl | rfl <;> rfl
theorem info_zero : ∃ i, Tryd.prog.info? 40 = some i ∧ i.zero = some zeroVal ∧ i.size = 4 ∧ i.bytes = 64 := by
  have hi := Event.info
  cases h : Tryd.prog.info? 40 with
  | none => rw [h] at hi; cases hi
  | some i0 => rw [h] at hi; simp only [Option.map_some, Option.some.injEq, Prod.mk.injEq] at hi; exact ⟨i0, rfl, hi.1, hi.2.1, hi.2.2⟩
theorem text_big (n : Nat) (A : Option Addr) (c : Nat) (w : World) (hn : 4096 < n) (h : n ≤ 100000) : Calls Tryd.prog 15 #[.slice A n c] w fun e w' => e = .returned (.tuple #[.string ⟨#[]⟩, .int .i64 3]) ∧ Below w.heap.size w w' := by
  have hi : (4096 : Int) < (n : Int) := by omega
  have hx1 : (n : Int) ≤ 9223372036854775807 := by omega
  go_enter Tryd.func15, Tryd.ntmps15
  go_wp2_with fail
  go_ret2
  exact ⟨rfl, Below.refl _ _⟩
theorem below_grown0 {w w' : World} (h : w.grownBy w' none) : Below w.heap.size w w' := ⟨h.os, h.tape, h.output, h.size, fun i hi => h.block i hi (by simp)⟩
/-- the text of a row of zeros, at least one -/
theorem text_zeros {w : World} {S : World → Prop} {w0 : World} {G m c : Nat} (f : Fr none S w0 w [rowK w0 40 4 (.slice (some ⟨G, 0, none⟩) m c) m ((List.replicate m zeroEv).flatMap LEv.cells)]) (h0 : 0 < m) (hm : m ≤ 4096) (hT : Tabs w) :
    Calls Tryd.prog 15 #[.slice (some ⟨G, 0, none⟩) m c] w fun e w' => e = .returned (.tuple #[.string ⟨#[]⟩, .int .i64 2]) ∧ Below w.heap.size w w' := by
  have f1 := (f.free (x := evsK (fun _ => False) (List.replicate m zeroEv)) (fun _ h => h) (fun x hx => by
    rw [List.eq_of_mem_replicate hx]
    exact ev_bare (by unfold I64; omega) (by unfold I64; omega)) (evsK_ok _ _)).rot1
  have he := f1.evsDone (by simp)
  rw [List.map_replicate] at he
  have h1 := text_any _ _ _ w he (fun n hn => hn.2) hT
  rw [text_bad (l := List.replicate m zeroEv.x) (by simp; omega) (j := 0) (by simpa using h0) (by simp [zeroEv, rightV])] at h1
  simpa [Sl.v] using h1
theorem byte_flat (l : List UInt8) (c : UInt8) : l.flatMap byteC ++ [.int .u8 (c.toNat : Int)] = (l ++ [c]).flatMap byteC := by simp [byteC]

theorem flat_byte (l : List UInt8) : l.flatMap byteC = l.map fun c => .int .u8 (c.toNat : Int) := by
  induction l with
  | nil => rfl
  | cons x t ih => rw [List.flatMap_cons, ih]; rfl
theorem saves_flat (j : Nat) : (saves j).flatMap byteC ++ (#[.int .u8 115, .int .u8 97, .int .u8 118, .int .u8 101, .int .u8 10] : Array Value).toList = (saves (j + 1)).flatMap byteC := by
  rw [saves_step, List.flatMap_append]
  rfl
theorem save_one : ∀ u ∈ (#[.int .u8 115, .int .u8 97, .int .u8 118, .int .u8 101, .int .u8 10] : Array Value).toList, u.oneCell' = true := by
  intro u hu
  simp only [List.mem_cons, List.not_mem_nil, or_false] at hu
  rcases hu with rfl | rfl | rfl | rfl | rfl <;> rfl

set_option maxRecDepth 100000 in
set_option maxHeartbeats 1000000 in
theorem scriptMany_any (n : Nat) (w : World) (hn : n < 65536) (hT : Tabs w) : Calls Tryd.prog 5 #[.int .u16 n] w fun r w' => r = .returned (.bool true) ∧ Below w.heap.size w w' := by
  obtain ⟨k, hk⟩ : ∃ k, k = n % 5000 := ⟨_, rfl⟩
  have hk5 : k < 5000 := by omega
  have hrem : (n : Int) % 5000 = (k : Int) := by omega
  have HREM := hid hrem
  have HK := hid hk
  clear hrem hk
  go_enter Tryd.func5, Tryd.ntmps5
  go_wp2_with fail
  refine (call_awake hT (Below.refl _ _)).mono ?_
  rintro r w1 ⟨rfl, hb1⟩
  have f_0 := (Fr.start0 w).below hb1
  have hs1 := hb1.size
  obtain ⟨i0, z0, hi0, hz0, hs0, hby0, hcc0⟩ := info_byte
  replace hby0 := hid hby0
  go_wp2_with (at_make; rw [HREM.out]; refine wpList_make_own _ rfl _ _ _ rfl w1.heap.size 5 i0 z0 1 Tryd.underlying36 hi0 hz0 hs0 .i64 .i64 _ (5 * k) rfl rfl (by omega) (by rw [hby0.out]; omega) (by unfold maxLen; omega) (Nat.le_refl _) ?_; intro w2 hown hgr)
  have f_1 := f_0.addRow (below_grown0 hgr) hown
  clear f_0 hown hgr
  replace hs1 := hid hs1
  go_loopw [4, 19] (fun v i wr => ∃ j G c : Nat, j ≤ k ∧ i = .int .i64 j ∧ v = .slice (some ⟨G, 0, none⟩) (5 * j) c ∧ Fr none (fun _ => True) w wr [rowK w 5 1 (.slice (some ⟨G, 0, none⟩) (5 * j) c) (5 * j) ((saves j).flatMap byteC)]) (fun _ i _ => k - (intOf i).toNat)
  case atStart => exact ⟨0, _, _, Nat.zero_le _, rfl, rfl, f_1⟩
  case round =>
    clear f_1
    obtain ⟨j, G, c, hj, rfl, rfl, f⟩ := hrel
    by_cases hlt : j < k
    · have f_2 := f.alloc (.cells #[.int .u8 115, .int .u8 97, .int .u8 118, .int .u8 101, .int .u8 10] 5)
      clear f
      have e5 : 5 * (j + 1) = 5 * j + 5 := by omega
      replace e5 := hid e5
      go_wp2_with (at_builtin; refine Fr.wpApp f_2 rfl _ _ _ rfl Tryd.underlying36 hi0 hz0 hs0 hby0.out hcc0 (by decide) rfl rfl rfl save_one (by decide) (by unfold maxLen; omega) (by omega) ?_; intro G2 cap w3 f_3)
      have f_4 := f_3.sub (List.Sublist.cons_cons _ (List.sublist_cons_self _ _))
      rw [saves_flat] at f_4
      go_roundw
      case rel => exact ⟨j + 1, G2, cap, by omega, by go_num, by rw [e5.out], by rw [e5.out]; exact f_4⟩
      case measure => simp [intOf]; omega
    · have hje : j = k := by omega
      subst hje
      have hcv : (convert 36 9 (.slice (some ⟨G, 0, none⟩) (5 * j) c)).run Tryd.prog wr = .ok (.string ⟨(saves j).toArray⟩) wr := by
        have := run_convert_bytes_back (P := Tryd.prog) wr 36 9 5 ⟨G, 0, none⟩ c (saves j) Tryd.underlying36 Tryd.underlying5 Tryd.underlying9 (fun q hq => f.head.q.cells (g := G) rfl q _ (by rw [flat_byte, List.getElem?_map, List.getElem?_eq_getElem hq]; rfl))
        rw [saves_len] at this
        exact this
      have hTw := hT.below f.low
      have hpp := parse_any ⟨(saves j).toArray⟩ wr (by rw [str_len, saves_len]; omega) hTw
      rw [show (⟨(saves j).toArray⟩ : ByteArray).data.toList = saves j from rfl] at hpp
      have hl := f.low
      clear f
      by_cases h4 : j ≤ 4096
      case neg =>
        rw [saves_many (by omega)] at hpp
        replace hpp := hid hpp
        have hd : (4096 : Int) < (j : Int) := by omega
        go_wp2_with fail
        refine hpp.out.mono ?_
        rintro r w3 ⟨xs, A, m, c', D, rfl, hxn, hxm, -, f_3⟩
        obtain rfl : m = 0 := by rw [← hxn, ← List.length_map (f := fun y : LEv => y.x), hxm]; rfl
        have hb3 := hl.trans (f_3.low.mono hl.size)
        clear f_3
        simp only
        go_wp2_with fail
        go_ret
        exact ⟨rfl, hb3⟩
      case pos =>
        rw [saves_few h4] at hpp
        replace hpp := hid hpp
        have hd : ¬ (4096 : Int) < (j : Int) := by omega
        obtain ⟨ie, hie, hze, hse, hbe⟩ := info_zero
        go_wp2_with fail
        refine hpp.out.mono ?_
        rintro r w3 ⟨xs, A, m, c', D, rfl, hxn, hxm, hz, f_3⟩
        have hmj : m = j := by rw [← hxn, ← List.length_map (f := fun y : LEv => y.x), hxm]; simp
        subst hmj
        have hb3 := hl.trans (f_3.low.mono hl.size)
        simp only
        clear hpp hxm
        obtain ⟨M, hM⟩ : ∃ M, M = 4096 := ⟨_, rfl⟩
        replace hM := hid hM
        by_cases h0 : m = 0
        · subst h0
          obtain ⟨rfl, rfl⟩ := hz rfl
          obtain rfl : xs = [] := List.length_eq_zero_iff.1 hxn
          have f_4 := f_3.sub (ks' := [_]) (List.Sublist.cons_cons _ (List.nil_sublist _))
          clear f_3
          go_wp2_with (at_builtin; refine Fr.wpZeros (m := M) f_4 rfl _ _ _ _ rfl Tryd.underlying23 Tryd.underlying3 hie hze hse hbe rfl (by decide) rfl (by rw [hM.out]; rfl) (zero_one M) (by rw [hM.out]; decide) (by rw [hM.out]; unfold maxLen; omega) (by rw [hM.out]; omega) ?_; intro G5 cap w4 f_5)
          rw [zero_flat] at f_5
          have hb4 := hl.trans (f_5.low.mono hl.size)
          rw [Nat.zero_add] at f_5
          have htz := hid (text_zeros f_5 (by rw [hM.out]; decide) (by rw [hM.out]; decide) (hT.below hb4))
          clear f_5 f_4
          go_wp2_with fail
          refine htz.out.mono ?_
          rintro r w5 ⟨rfl, hb5⟩
          go_wp2_with fail
          go_ret
          exact ⟨rfl, hb4.trans (hb5.mono hb4.size)⟩
        · have f_4 := f_3.sub (ks' := [_]) (List.Sublist.cons_cons _ (List.nil_sublist _))
          clear f_3
          go_wp2_with (at_builtin; refine Fr.wpZeros (m := M) f_4 rfl _ _ _ _ rfl Tryd.underlying23 Tryd.underlying3 hie hze hse hbe rfl (by decide) rfl (by rw [hM.out]; rfl) (zero_one M) (by rw [hM.out]; decide) (by rw [hM.out]; unfold maxLen; omega) (by rw [hM.out]; omega) ?_; intro G5 cap w4 f_5)
          have hb4 := hl.trans (f_5.low.mono hl.size)
          clear f_5 f_4
          have htb := hid (fun A c => text_big (m + M) A c w4 (by have := hM.out; omega) (by have := hM.out; omega))
          have hm0 : ((m : Int) == 0) = false := beq_eq_false_iff_ne.2 (by omega)
          go_wp2_with fail
          refine (htb.out _ _).mono ?_
          rintro r w5 ⟨rfl, hb5⟩
          go_wp2_with fail
          go_ret
          exact ⟨rfl, hb4.trans (hb5.mono hb4.size)⟩
end Go.Proofs.YtmdnmodjdgcmjaaDoor
