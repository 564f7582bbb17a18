/-
  The walks of numbers, words and lines, and of the reference's Read and words.
-/
import Derived.Test.YtmdnmodjdgcmjaaDoorHScN
import Derived.Deep.CutRange
import Derived.Lib.OthersKept
namespace Go.Proofs.YtmdnmodjdgcmjaaDoor
open Go.RowKit

def wordL (ws : List ByteArray) : List (List UInt8) := ws.map (·.data.toList)
theorem nums_none : ∀ {ws : List (List UInt8)} {j : Nat} (hj : j < ws.length), numP ws[j] = none → numsP ws = none
  | w :: t, 0, _, h => by rw [numsP]; simp only [List.getElem_cons_zero] at h; rw [h]
  | w :: t, j + 1, hj, h => by
    rw [numsP]
    cases hw : numP w with
    | none => rfl
    | some v =>
      dsimp only
      rw [nums_none (ws := t) (j := j) (by simpa using hj) (by simpa using h)]
theorem nums_push : ∀ {ws : List (List UInt8)} {l : List Int} {w : List UInt8} {v : Int}, numsP ws = some l → numP w = some v → numsP (ws ++ [w]) = some (l ++ [v])
  | [], l, w, v, h, hv => by
    injection h with h
    subst h
    simp [numsP, hv]
  | a :: t, l, w, v, h, hv => by
    rw [numsP] at h
    rw [List.cons_append, numsP]
    cases ha : numP a with
    | none => rw [ha] at h; cases h
    | some x =>
      rw [ha] at h
      dsimp only at h ⊢
      cases ht : numsP t with
      | none => rw [ht] at h; cases h
      | some l' =>
        rw [ht] at h
        injection h with h
        subst h
        rw [nums_push ht hv]
        rfl
/-- words that lie in memory below a block -/
def WordsAt (w : World) (A : Option Addr) (ws : List ByteArray) : Prop := SlAt 1 (StrIn (· < w.heap.size) w) A ws
theorem WordsAt.keep {w w' : World} {A : Option Addr} {ws : List ByteArray} (h : WordsAt w A ws) (hb : Below w.heap.size w w') : WordsAt w' A ws :=
  SlAt.imp h fun _ _ _ => StrIn.keep (stay_below (Nat.le_refl _) hb) fun _ hn => Nat.lt_of_lt_of_le hn hb.size
theorem take_map {ws : List ByteArray} {j : Nat} (h : j < ws.length) : wordL (ws.take (j + 1)) = wordL (ws.take j) ++ [ws[j].data.toList] := by
  unfold wordL
  rw [List.take_succ_eq_append_getElem h, List.map_append]
  rfl
theorem int_slice {w : World} {b0 : Nat} {v : Value} {n : Nat} {xs : List Value} {t : TypeId} (h : w.ownsRow b0 t 1 v n xs) : ∃ A c, v = .slice A n c := by
  rcases h.2 with ⟨h1, h2⟩ | ⟨g, cap, cur, h1, _⟩
  · exact ⟨none, 0, by rw [h1, h2]⟩
  · exact ⟨_, _, h1⟩

set_option maxRecDepth 100000 in
set_option maxHeartbeats 4000000 in
theorem numbers_any (ws : List ByteArray) (A : Option Addr) (c : Nat) (w : World) (hw : WordsAt w A ws) (hn : ws.length ≤ 20000000) (hs : ∀ x ∈ ws, x.size ≤ 20000000) (hT : Tabs w) :
    Calls Tryd.prog 63 #[.slice A ws.length c] w fun r w' => Below w.heap.size w w' ∧ ∃ l A' c', l.length ≤ ws.length ∧ r = .returned (.tuple #[.slice A' l.length c', .bool (numsP (wordL ws)).isSome]) ∧ (∀ m, numsP (wordL ws) = some m → l = m) ∧ (∀ v ∈ l, I64 v) ∧
      w'.ownsRow w.heap.size 3 1 (.slice A' l.length c') l.length (l.flatMap intC) := by
  obtain ⟨i0, z0, hi0, hz0, hs0, hb0, hc0⟩ := info_int
  have hnum := fun (x : ByteArray) (hx : x ∈ ws) W (h : Below w.heap.size w W) => number_any x W (hs x hx) (hT.below h)
  replace hnum := hid hnum
  have hW := hid (fun W (h : Below w.heap.size w W) => hw.keep h)
  clear hw hT
  go_enter Tryd.func63, Tryd.ntmps63
  have f_0 := (Fr.start0 w).nilRow 3 1
  go_wp2_with fail
  go_loopw [4, 11] (fun o i wr => ∃ (k : Nat) (l : List Int) (A' : Option Addr) (c' : Nat), k ≤ ws.length ∧ i = .int .i64 k ∧ o = .slice A' k c' ∧ Hid (l.length = k ∧ numsP (wordL (ws.take k)) = some l ∧ ∀ v ∈ l, I64 v) ∧ Fr none (fun _ => True) w wr [rowK w 3 1 (.slice A' k c') k (l.flatMap intC)]) (fun _ i _ => ws.length - (intOf i).toNat)
  case atStart => exact ⟨0, [], none, 0, Nat.zero_le _, rfl, rfl, ⟨rfl, rfl, (fun v hv => by cases hv)⟩, f_0⟩
  case round =>
    clear f_0
    obtain ⟨k, l, A', c', hl, rfl, rfl, hI, f⟩ := hrel
    by_cases hlt : k < ws.length
    · obtain ⟨b, o, rfl, hx⟩ := hW.out wr f.low k hlt
      have hxm := List.getElem_mem hlt
      have hget : (wordL ws)[k]'(by simpa [wordL] using hlt) = ws[k].data.toList := by simp [wordL]
      have hnone := nums_none (ws := wordL ws) (j := k) (by simpa [wordL] using hlt)
      rw [hget] at hnone
      have hpush := fun v => nums_push (w := ws[k].data.toList) (v := v) hI.out.2.1
      rw [← take_map hlt] at hpush
      have hcell := hx.2.2
      rw [Nat.mul_one] at hcell
      have hnx := hnum.out ws[k] hxm wr f.low
      clear hget hx hxm
      generalize ws[k] = x at *
      replace hnx := hid hnx
      replace hnone := hid hnone
      replace hpush := hid hpush
      go_wp2_with fail
      refine hnx.out.mono ?_
      rintro r w1 ⟨hb, v, hv, rfl, hval⟩
      have f_1 := f.below hb
      clear f hb hcell
      cases hp : numP x.data.toList with
      | none =>
        replace hnone := hid (hnone.out hp)
        simp only [Option.isSome_none]
        go_wp2_with fail
        go_ret2
        refine ⟨f_1.low, [], none, 0, Nat.zero_le _, ?_, (fun m hm => by rw [hnone.out] at hm; cases hm), (fun v hv => by cases hv), World.ownsRow_nil _ _ _ _⟩
        rw [hnone.out]; rfl
      | some u =>
        obtain rfl := hval u hp
        replace hpush := hid (hpush.out v hp)
        simp only [Option.isSome_some]
        clear hp hval hnone
        go_upto_region 8 with fail
        have f_2 := f_1.alloc (.cells #[.int .i64 v] 3)
        clear f_1
        go_wp2_with (at_builtin; refine Fr.wpApp f_2 rfl _ _ _ rfl Tryd.underlying38 hi0 hz0 hs0 hb0 hc0 (by decide) rfl rfl rfl int_one (by decide) (by unfold maxLen; omega) (by omega) ?_; intro G cap w2 f_3)
        have f_4 := f_3.sub (List.Sublist.cons_cons _ (List.sublist_cons_self _ _))
        go_roundw
        case rel =>
          refine ⟨k + 1, l ++ [v], _, _, by omega, by go_num, rfl, ⟨by simp [hI.out.1], hpush.out, fun u hu => ?_⟩, by simpa [intC] using f_4⟩
          rcases List.mem_append.1 hu with hu | hu
          · exact hI.out.2.2 u hu
          · rw [List.mem_singleton.1 hu]; exact hv
        case measure => simp [intOf]; omega
    · have : k = ws.length := by omega
      subst this
      obtain ⟨h1, h2, h3⟩ := hI.out
      rw [List.take_length] at h2
      replace h2 := hid h2
      go_wp2_with fail
      go_ret2
      rw [← h1] at f ⊢
      exact ⟨f.low, l, A', c', Nat.le_refl _, by rw [h2.out]; rfl, (fun m hm => by rw [h2.out] at hm; injection hm), h3, f.head.q⟩
end Go.Proofs.YtmdnmodjdgcmjaaDoor
