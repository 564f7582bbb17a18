/-
  Texts of this claim, joined: Ex Tok Tok2 Tok3 Tok4.
-/
import Derived.Test.YtnlikhjmmnaknaaGreatDoorRows
import Derived.WalkKit
import Derived.WalkSpells
import Derived.WalkLawsBesides
import Derived.Lib.Strings
/-
  Expressions as a plain Lean type, and how one lies in memory.
-/
namespace Go.Proofs.YtnlikhjmmnaknaaGreatDoor
open Go.RowKit

/-- (Besides: junk: no expression at all, for the places behind the last part.) An expression: op, name, number, how many parts, the parts by their index, the place. -/
inductive Ex where
  | junk
  | mk (op : Int) (name : ByteArray) (n : Int) (k : Nat) (arg : Nat → Ex) (line col : Int)

namespace Ex
def op : Ex → Int | .mk o _ _ _ _ _ _ => o | .junk => 0
def name : Ex → ByteArray | .mk _ s _ _ _ _ _ => s | .junk => ⟨#[]⟩
def num : Ex → Int | .mk _ _ n _ _ _ _ => n | .junk => 0
def k : Ex → Nat | .mk _ _ _ k _ _ _ => k | .junk => 0
def arg : Ex → Nat → Ex | .mk _ _ _ _ a _ _ => a | .junk => fun _ => .junk
def line : Ex → Int | .mk _ _ _ _ _ l _ => l | .junk => 0
def col : Ex → Int | .mk _ _ _ _ _ _ c => c | .junk => 0

/-- An expression's value, its parts lying at A. -/
def val (e : Ex) (A : Option Addr) (cap : Nat) : Value := .agg #[.int .i64 e.op, .string e.name, .int .i64 e.num, .slice A e.k cap, .int .i64 e.line, .int .i64 e.col]
end Ex

/-- a fact kept from the walk -/
theorem hid {p : Prop} (h : p) : Hid p := h

/-- what an int of Go may be -/
def I64 (x : Int) : Prop := -9223372036854775808 ≤ x ∧ x ≤ 9223372036854775807

/-- An element of a slice of expressions: six cells. -/
structure CellsAt (w : World) (b o : Nat) (e : Ex) (A : Option Addr) (cap : Nat) : Prop where
  c0 : w.cell? ⟨b, o, none⟩ = some (.int .i64 e.op)
  c1 : w.cell? ⟨b, o + 1, none⟩ = some (.string e.name)
  c2 : w.cell? ⟨b, o + 2, none⟩ = some (.int .i64 e.num)
  c3 : w.cell? ⟨b, o + 3, none⟩ = some (.slice A e.k cap)
  c4 : w.cell? ⟨b, o + 4, none⟩ = some (.int .i64 e.line)
  c5 : w.cell? ⟨b, o + 5, none⟩ = some (.int .i64 e.col)

/-- An expression's parts lie at A, below block B. -/
def ExAt (B : Nat) (w : World) : Ex → Option Addr → Nat → Prop
  | .junk, _, _ => False
  | .mk op name n k arg l c, A, cap =>
    (I64 op ∧ name.size ≤ maxLen ∧ I64 n ∧ I64 l ∧ I64 c ∧ k ≤ cap ∧ cap ≤ maxLen) ∧
    ∀ i, i < k → ∃ b o A' cap', A = some ⟨b, o, none⟩ ∧ b < B ∧ CellsAt w b (o + i * 6) (arg i) A' cap' ∧ ExAt B w (arg i) A' cap'

theorem CellsAt.keep {w w' : World} {b o : Nat} {e : Ex} {A : Option Addr} {cap : Nat} (h : CellsAt w b o e A cap) (hk : ∀ i, w'.cell? ⟨b, i, none⟩ = w.cell? ⟨b, i, none⟩) : CellsAt w' b o e A cap :=
  ⟨by rw [hk]; exact h.c0, by rw [hk]; exact h.c1, by rw [hk]; exact h.c2, by rw [hk]; exact h.c3, by rw [hk]; exact h.c4, by rw [hk]; exact h.c5⟩

theorem ExAt.keep {B : Nat} {w w' : World} (hk : ∀ b i, b < B → w'.cell? ⟨b, i, none⟩ = w.cell? ⟨b, i, none⟩) : ∀ (e : Ex) (A : Option Addr) (cap : Nat), ExAt B w e A cap → ExAt B w' e A cap := by
  intro e
  induction e with
  | junk => exact fun _ _ h => h
  | mk op name n k arg l c ih =>
    rintro A cap ⟨h0, h⟩
    refine ⟨h0, fun i hi => ?_⟩
    obtain ⟨b, o, A', cap', hA, hb, hc, hr⟩ := h i hi
    exact ⟨b, o, A', cap', hA, hb, hc.keep fun j => hk b j hb, ih i _ _ hr⟩

theorem ExAt.below {B : Nat} {w w' : World} {e : Ex} {A : Option Addr} {cap : Nat} (h : ExAt B w e A cap) {B' : Nat} (hB : B ≤ B') (hb : Below B' w w') : ExAt B w' e A cap :=
  ExAt.keep (fun b i hbB => hb.cell (p := ⟨b, i, none⟩) (by simp; omega)) e A cap h

theorem ExAt.more {B B' : Nat} {w : World} (hB : B ≤ B') : ∀ (e : Ex) (A : Option Addr) (cap : Nat), ExAt B w e A cap → ExAt B' w e A cap := by
  intro e
  induction e with
  | junk => exact fun _ _ h => h
  | mk op name n k arg l c ih =>
    rintro A cap ⟨h0, h⟩
    refine ⟨h0, fun i hi => ?_⟩
    obtain ⟨b, o, A', cap', hA, hb, hc, hr⟩ := h i hi
    exact ⟨b, o, A', cap', hA, by omega, hc, ih i _ _ hr⟩

/-- A boxed parameter: its cells in every later world, and what lies below it. -/
theorem boxed_cell {w wr : World} {cs : Array Value} {t : TypeId} (h : Below (w.heap.size + 1) (w.alloc (.cells cs t)) wr) (i : Nat) : wr.cell? ⟨w.heap.size, i, none⟩ = cs[i]? := by
  rw [h.cell (p := ⟨w.heap.size, i, none⟩) (by simp), World.cell?_alloc_new]
theorem boxed_below {w wr : World} {o : Obj} (h : Below (w.heap.size + 1) (w.alloc o) wr) : Below w.heap.size w wr :=
  ((Below.refl w.heap.size w).alloc (Nat.le_refl _) o).trans (h.mono (by omega))
theorem boxed_size {w wr : World} {o : Obj} (h : Below (w.heap.size + 1) (w.alloc o) wr) : w.heap.size < wr.heap.size := by
  have := h.size
  simp at this
  omega

/-- the greatest of the first so many -/
def maxTo (f : Nat → Nat) : Nat → Nat
  | 0 => 0
  | n + 1 => max (maxTo f n) (f n)
def sumTo (f : Nat → Nat) : Nat → Nat
  | 0 => 0
  | n + 1 => sumTo f n + f n

namespace Ex
def height : Ex → Nat | .junk => 0 | .mk _ _ _ k arg _ _ => maxTo (fun i => (arg i).height) k + 1
def size : Ex → Nat | .junk => 0 | .mk _ _ _ k arg _ _ => 1 + sumTo (fun i => (arg i).size) k
end Ex

end Go.Proofs.YtnlikhjmmnaknaaGreatDoor
/-
  The walks of package token's small functions, and of the reference's: what each returns.
-/
namespace Go.Proofs.YtnlikhjmmnaknaaGreatDoor
open Go.RowKit

def isLetter (c : Int) : Bool := (decide (97 ≤ c) && decide (c ≤ 122)) || (decide (65 ≤ c) && decide (c ≤ 90)) || (c == 95)
def isDigit (c : Int) : Bool := decide (48 ≤ c) && decide (c ≤ 57)

theorem ret_int {k : IntKind} {a b : Int} (h : a = b) : Ending.returned (.int k a) = .returned (.int k b) := by rw [h]
theorem ret_bool {a b : Bool} (h : a = b) : Ending.returned (.bool a) = .returned (.bool b) := by rw [h]

theorem letter_1 {c : Int} (h : isLetter c = true) : (97 ≤ c ∧ c ≤ 122) ∨ (65 ≤ c ∧ c ≤ 90) ∨ c = 95 := by
  simpa [isLetter, or_assoc] using h

set_option maxHeartbeats 400000 in
theorem letter_any (c : Int) (w : World) :
    Calls Tryz.prog 75 #[.int .u8 c] w fun e w' => e = .returned (.bool (isLetter c)) ∧ w = w' := by
  go_enter Tryz.func75, Tryz.ntmps75
  go_wp2_with fail
  all_goals (go_ret; refine ⟨ret_bool ?_, rfl⟩; rw [Bool.eq_iff_iff]; simp [isLetter]; try omega)

set_option maxHeartbeats 400000 in
theorem digit_any (c : Int) (w : World) :
    Calls Tryz.prog 78 #[.int .u8 c] w fun e w' => e = .returned (.bool (isDigit c)) ∧ w = w' := by
  go_enter Tryz.func78, Tryz.ntmps78
  go_wp2_with fail
  all_goals (go_ret; refine ⟨ret_bool ?_, rfl⟩; rw [Bool.eq_iff_iff]; simp [isDigit]; try omega)

set_option maxHeartbeats 400000 in
theorem rdigit_any (c : Int) (w : World) :
    Calls Tryz.prog 87 #[.int .u8 c] w fun e w' => e = .returned (.bool (isDigit c)) ∧ w = w' := by
  go_enter Tryz.func87, Tryz.ntmps87
  go_wp2_with fail
  all_goals (go_ret; refine ⟨ret_bool ?_, rfl⟩; rw [Bool.eq_iff_iff]; simp [isDigit]; try omega)

set_option maxHeartbeats 400000 in
theorem rpart_any (c : Int) (w : World) :
    Calls Tryz.prog 86 #[.int .u8 c] w fun e w' => e = .returned (.bool (isLetter c || isDigit c)) ∧ w = w' := by
  go_enter Tryz.func86, Tryz.ntmps86
  go_wp2_with (go_at_call 87; refine (rdigit_any _ _).mono ?_; rintro e w' ⟨rfl, rfl⟩)
  all_goals (go_ret; refine ⟨ret_bool ?_, rfl⟩; rw [Bool.eq_iff_iff]; simp [isDigit, isLetter]; try omega)

/-- the words, as bytes -/
def wordL : List ByteArray := [⟨#[110, 111, 100, 101]⟩, ⟨#[114, 101, 116, 117, 114, 110, 115]⟩, ⟨#[118, 97, 114]⟩, ⟨#[108, 101, 116]⟩, ⟨#[116, 101, 108]⟩, ⟨#[105, 102]⟩, ⟨#[116, 104, 101, 110]⟩, ⟨#[101, 108, 115, 101]⟩, ⟨#[112, 114, 101]⟩, ⟨#[102, 98, 121]⟩, ⟨#[119, 104, 101, 110]⟩, ⟨#[110, 111, 116]⟩, ⟨#[109, 101, 114, 103, 101]⟩, ⟨#[97, 110, 100]⟩, ⟨#[111, 114]⟩, ⟨#[120, 111, 114]⟩, ⟨#[116, 114, 117, 101]⟩, ⟨#[102, 97, 108, 115, 101]⟩, ⟨#[105, 110, 116]⟩, ⟨#[98, 111, 111, 108]⟩]

def isWord (s : List UInt8) : Bool := wordL.any (fun x => x.data.toList == s)

set_option maxHeartbeats 400000 in
theorem words_any (w : World) :
    Calls Tryz.prog 107 #[] w fun e w' => e = .returned (.slice (some ⟨w.heap.size, 0, none⟩) 20 20) ∧ w.alloc (.cells (wordL.map .string).toArray 9) = w' := by
  go_enter Tryz.func107, Tryz.ntmps107
  go_wp2_with fail
  go_ret
  exact ⟨rfl, rfl⟩

theorem wordL_len : wordL.length = 20 := rfl
theorem isWord_hit {s : ByteArray} {j : Nat} (h : j < 20) (he : (s.toList == (wordL[j]?.getD ByteArray.empty).toList) = true) : isWord s.data.toList = true := by
  unfold isWord
  rw [List.any_eq_true]
  refine ⟨wordL[j], List.getElem_mem _, ?_⟩
  rw [List.getElem?_eq_getElem h] at he
  rw [ByteArray.toList_eq, ByteArray.toList_eq] at he
  simp at he ⊢
  exact he.symm
theorem isWord_miss {s : ByteArray} (h : ∀ j, j < 20 → (s.toList == (wordL[j]?.getD ByteArray.empty).toList) = false) : isWord s.data.toList = false := by
  unfold isWord
  rw [List.any_eq_false]
  intro x hx
  obtain ⟨j, hj, rfl⟩ := List.getElem_of_mem hx
  have := h j hj
  rw [List.getElem?_eq_getElem hj] at this
  rw [ByteArray.toList_eq, ByteArray.toList_eq] at this
  simp at this ⊢
  exact fun e => this e.symm

set_option maxHeartbeats 400000 in
theorem word_any (s : ByteArray) (w : World) :
    Calls Tryz.prog 79 #[.string s] w fun e w' => e = .returned (.bool (isWord s.data.toList)) ∧ Below w.heap.size w w' := by
  go_enter Tryz.func79, Tryz.ntmps79
  go_wp2_with (go_at_call 107; refine (words_any _).mono ?_; rintro e w' ⟨rfl, rfl⟩)
  have hbel : Below w.heap.size w (w.alloc (.cells (wordL.map .string).toArray 9)) := (Below.refl _ _).alloc (Nat.le_refl _) _
  have hcell : ∀ i, i < 20 → (w.alloc (.cells (wordL.map .string).toArray 9)).cell? ⟨w.heap.size, i, none⟩ = some (.string (wordL[i]?.getD ByteArray.empty)) := fun i hi => by
    rw [World.cell?_alloc_new]
    simp [List.getElem?_eq_getElem (show i < wordL.length from hi)]
  generalize w.alloc (.cells (wordL.map .string).toArray 9) = W at *
  go_loop [4, 7] (fun x i => ∃ j : Nat, j ≤ 20 ∧ i = .int .i64 j ∧ Hid (∀ m, m < j → (s.toList == (wordL[m]?.getD ByteArray.empty).toList) = false)) (fun _ i => 20 - (intOf i).toNat)
  case atStart => exact ⟨0, by omega, rfl, fun m hm => absurd hm (by omega)⟩
  case round =>
    obtain ⟨j, hj, rfl, hmiss⟩ := hrel
    by_cases hlt : j < 20
    · have hc := hcell j hlt
      clear hcell
      go_wp2_with fail
      · go_ret
        exact ⟨ret_bool (isWord_hit hlt ‹_›).symm, hbel⟩
      · go_round
        case rel =>
          refine ⟨j + 1, by omega, by go_num, fun m hm => ?_⟩
          by_cases hmj : m = j
          · subst hmj; assumption
          · exact hmiss.out m (by omega)
        case measure => simp [intOf]; omega
    · have : j = 20 := by omega
      subst this
      go_wp2_with fail
      go_ret
      exact ⟨ret_bool (isWord_miss hmiss.out).symm, hbel⟩
end Go.Proofs.YtnlikhjmmnaknaaGreatDoor
/-
  The walks of token.named and token.Name.
-/
namespace Go.Proofs.YtnlikhjmmnaknaaGreatDoor
open Go.RowKit

/-- may a byte stand at this place of a name? -/
def partAt (i : Nat) (c : Int) : Bool := isLetter c || (!(i == 0) && isDigit c)
/-- does the rest of a text, whose first byte stands at a place, go on as a name? -/
def namedFrom (i : Nat) : List UInt8 → Bool
  | [] => true
  | c :: l => partAt i (c.toNat : Int) && namedFrom (i + 1) l
def isNamed (l : List UInt8) : Bool := namedFrom 0 l && decide (1 ≤ l.length) && decide (l.length ≤ 20)
def isName (l : List UInt8) : Bool := isNamed l && !isWord l

theorem partAt_letter {j : Nat} {c : Int} (h : isLetter c = true) : partAt j c = true := by simp [partAt, h]
theorem partAt_first {c : Int} (h : ¬isLetter c = true) : partAt 0 c = false := by simp [partAt, h]
theorem partAt_no {j : Nat} {c : Int} (h : ¬isLetter c = true) (h0 : ¬j = 0) (h1 : ((j : Int) == 0) = true ∨ (!isDigit c) = true) : partAt j c = false := by
  rcases h1 with h1 | h1
  · simp at h1; omega
  · simp at h1; simp [partAt, h, h1]
theorem partAt_yes {j : Nat} {c : Int} (h1 : ((j : Int) == 0) = false ∧ (!isDigit c) = false) : partAt j c = true := by
  obtain ⟨h1, h2⟩ := h1
  simp at h1 h2; simp [partAt, h1, h2]

theorem byte_data (s : ByteArray) (j : Nat) (h : j < s.size) : s.data.toList.drop j = s[j] :: s.data.toList.drop (j + 1) := by
  rw [List.drop_eq_getElem_cons (by simpa using h)]; rfl
theorem byte_lt (c : UInt8) : (c.toNat : Int) ≤ 255 := by have := c.toNat_lt; omega

set_option maxHeartbeats 400000 in
theorem named_any (s : ByteArray) (w : World) (hs : s.size ≤ maxLen) :
    Calls Tryz.prog 84 #[.string s] w fun e w' => e = .returned (.bool (isNamed s.data.toList)) ∧ w = w' := by
  unfold maxLen at hs
  go_enter Tryz.func84, Tryz.ntmps84
  go_wp2_with fail
  go_loop [3, 6] (fun x i => ∃ j : Nat, j ≤ s.size ∧ i = .int .i64 j ∧ Hid (namedFrom 0 s.data.toList = namedFrom j (s.data.toList.drop j))) (fun _ i => s.size - (intOf i).toNat)
  case atStart => exact ⟨0, by omega, rfl, rfl⟩
  case round =>
    obtain ⟨j, hj, rfl, hrel⟩ := hrel
    by_cases hlt : j < s.size
    · have hd := byte_data s j hlt
      have hn : namedFrom 0 s.data.toList = (partAt j (s[j].toNat : Int) && namedFrom (j + 1) (s.data.toList.drop (j + 1))) := by
        rw [hrel.out, hd]; rfl
      have HN := hid hn
      clear hn hd hrel
      go_wp2_with (first | (go_at_call 75; refine (letter_any _ _).mono ?_; rintro e w' ⟨rfl, rfl⟩) | (go_at_call 78; refine (digit_any _ _).mono ?_; rintro e w' ⟨rfl, rfl⟩))
      · go_round
        case rel =>
          refine ⟨j + 1, by omega, by go_num, ?_⟩
          show _ = _
          rw [HN.out, partAt_letter ‹_›, Bool.true_and]
        case measure => simp [intOf]; omega
      · go_ret
        refine ⟨ret_bool ?_, rfl⟩
        subst_vars
        rw [isNamed, HN.out, partAt_first ‹_›]; rfl
      · go_ret
        refine ⟨ret_bool ?_, rfl⟩
        rw [isNamed, HN.out, partAt_no ‹_› ‹_› (by assumption)]; rfl
      · go_round
        case rel =>
          refine ⟨j + 1, by omega, by go_num, ?_⟩
          show _ = _
          rw [HN.out, partAt_yes (by assumption), Bool.true_and]
        case measure => simp [intOf]; omega
    · have : j = s.size := by omega
      subst this
      have HN : Hid (namedFrom 0 s.data.toList = true) := by
        rw [hrel.out, List.drop_of_length_le (by simp)]; rfl
      clear hrel
      go_wp2_with fail
      all_goals
        go_ret
        refine ⟨ret_bool ?_, rfl⟩
        rw [isNamed, HN.out, Bool.eq_iff_iff]
        simp
        try omega

set_option maxHeartbeats 400000 in
theorem name_any (s : ByteArray) (w : World) (hs : s.size ≤ maxLen) :
    Calls Tryz.prog 48 #[.string s] w fun e w' => e = .returned (.bool (isName s.data.toList)) ∧ Below w.heap.size w w' := by
  go_enter Tryz.func48, Tryz.ntmps48
  go_wp2_with (first | (go_at_call 84; refine (named_any _ _ hs).mono ?_; rintro e w' ⟨rfl, rfl⟩) | (go_at_call 79; refine (word_any _ _).mono ?_; rintro e w' ⟨rfl, hb⟩))
  · go_ret
    exact ⟨ret_bool (by simp [isName, *]), hb⟩
  · go_ret
    exact ⟨ret_bool (by simp [isName, *]), Below.refl _ _⟩
end Go.Proofs.YtnlikhjmmnaknaaGreatDoor
/-
  The walks of the reference's Word and Name.
-/
namespace Go.Proofs.YtnlikhjmmnaknaaGreatDoor
open Go.RowKit

def wordsC : ByteArray := ⟨#[32, 110, 111, 100, 101, 32, 114, 101, 116, 117, 114, 110, 115, 32, 118, 97, 114, 32, 108, 101, 116, 32, 116, 101, 108, 32, 105, 102, 32, 116, 104, 101, 110, 32, 101, 108, 115, 101, 32, 112, 114, 101, 32, 102, 98, 121, 32, 119, 104, 101, 110, 32, 110, 111, 116, 32, 109, 101, 114, 103, 101, 32, 97, 110, 100, 32, 111, 114, 32, 120, 111, 114, 32, 116, 114, 117, 101, 32, 102, 97, 108, 115, 101, 32, 105, 110, 116, 32, 98, 111, 111, 108, 32]⟩

def spaced (l : List UInt8) : Bool := l.any (fun c => c.toNat == 32)

def wordsL : List UInt8 := wordsC.data.toList

theorem words_have : ∀ x ∈ wordL, ∃ m, m < 94 ∧ m + (x.data.toList.length + 2) ≤ 93 ∧ (wordsL.drop m).take (x.data.toList.length + 2) = 32 :: (x.data.toList ++ [32]) := by
  decide +kernel
theorem words_plain : ∀ x ∈ wordL, spaced x.data.toList = false := by
  decide +kernel
theorem words_only : ∀ j, j < 94 → ∀ n, n < 94 → (wordsL.drop j).take (n + 2) = 32 :: ((wordsL.drop (j + 1)).take n ++ [32]) → spaced ((wordsL.drop (j + 1)).take n) = false →
    isWord ((wordsL.drop (j + 1)).take n) = !((wordsL.drop (j + 1)).take n).isEmpty := by
  decide +kernel

theorem isWord_mem {l : List UInt8} (h : isWord l = true) : ∃ x ∈ wordL, x.data.toList = l := by
  unfold isWord at h
  rw [List.any_eq_true] at h
  obtain ⟨x, hx, he⟩ := h
  exact ⟨x, hx, by simpa using he⟩
theorem isWord_spaced {l : List UInt8} (h : spaced l = true) : isWord l = false := by
  cases hw : isWord l with
  | false => rfl
  | true =>
    obtain ⟨x, hx, rfl⟩ := isWord_mem hw
    rw [words_plain x hx] at h
    cases h

theorem size_len (t : ByteArray) : t.size = t.data.toList.length := by rw [Array.length_toList]; rfl

theorem win (t : ByteArray) (m : Nat) : (wordsC.extract m (m + t.size)).toList = (wordsL.drop m).take t.data.toList.length := by
  rw [ByteArray.toList_eq, Lib.extract_data]
  show List.take (m + t.size - m) _ = _
  rw [← size_len, show m + t.size - m = t.size by omega]; rfl

theorem found_word {t : ByteArray} {l : List UInt8} {j : Nat} (ht : t.data.toList = 32 :: (l ++ [32])) (hj : j + t.size ≤ 93) (hl : spaced l = false)
    (h : ((wordsC.extract j (j + t.size)).toList == t.toList) = true) : isWord l = !l.isEmpty := by
  rw [win, ByteArray.toList_eq, ht] at h
  have hn : t.size = l.length + 2 := by
    rw [size_len, ht]; simp
  have h' : (wordsL.drop j).take (l.length + 2) = 32 :: (l ++ [32]) := by simpa using h
  have hl' : l = (wordsL.drop (j + 1)).take l.length := by
    have h2 := congrArg (fun x => (x.drop 1).take l.length) h'
    simp only [List.drop_take, List.drop_drop, List.take_take, List.drop_succ_cons, List.drop_zero] at h2
    rw [List.take_left] at h2
    rw [show min l.length (l.length + 2 - 1) = l.length by omega] at h2
    exact h2.symm
  have := words_only j (by omega) l.length (by omega)
  rw [← hl'] at this
  exact this h' hl

theorem found_none {t : ByteArray} {l : List UInt8} (ht : t.data.toList = 32 :: (l ++ [32])) (h : ∀ m, m + t.size ≤ 93 → ((wordsC.extract m (m + t.size)).toList == t.toList) = false) : isWord l = false := by
  cases hw : isWord l with
  | false => rfl
  | true =>
    obtain ⟨x, hx, rfl⟩ := isWord_mem hw
    obtain ⟨m, _, hm, he⟩ := words_have x hx
    have hn : t.size = x.data.toList.length + 2 := by
      rw [size_len, ht]; simp
    have := h m (by omega)
    rw [win, ByteArray.toList_eq, ht] at this
    simp at this he
    exact absurd he this

set_option maxHeartbeats 400000 in
theorem rword_any (s : ByteArray) (w : World) (hs : s.size ≤ 1000000) :
    Calls Tryz.prog 88 #[.string s] w fun e w' => e = .returned (.bool (isWord s.data.toList)) ∧ w = w' := by
  go_enter Tryz.func88, Tryz.ntmps88
  go_wp2_with fail
  go_loop [3] (fun i => ∃ j : Nat, j ≤ s.size ∧ i = .int .i64 j ∧ Hid (spaced s.data.toList = spaced (s.data.toList.drop j))) (fun i => s.size - (intOf i).toNat)
  case atStart => exact ⟨0, by omega, rfl, rfl⟩
  case round =>
    obtain ⟨j, hj, rfl, hrel⟩ := hrel
    by_cases hlt : j < s.size
    · have hd := byte_data s j hlt
      have hn : spaced s.data.toList = ((s[j].toNat == 32) || spaced (s.data.toList.drop (j + 1))) := by
        rw [hrel.out, hd]; rfl
      have HN := hid hn
      clear hn hd hrel
      go_wp2_with fail
      · go_ret
        refine ⟨ret_bool (isWord_spaced ?_).symm, rfl⟩
        rw [HN.out]
        have h : ((s[j].toNat : Int) == 32) = true := ‹_›
        simp at h
        simp; omega
      · go_round
        case rel =>
          refine ⟨j + 1, by omega, by go_num, ?_⟩
          show _ = _
          have h : ((s[j].toNat : Int) == 32) = false := ‹_›
          simp at h
          rw [HN.out, beq_eq_false_iff_ne.2 (by omega), Bool.false_or]
        case measure => simp [intOf]; omega
    · have : j = s.size := by omega
      subst this
      have HN : Hid (spaced s.data.toList = false) := by
        rw [hrel.out, List.drop_of_length_le (by simp)]; rfl
      clear hrel
      go_wp2_with fail
      have hts : ({ data := #[32] } ++ s ++ { data := #[32] } : ByteArray).size = s.size + 2 := by
        rw [ByteArray.size_append, ByteArray.size_append]
        show 1 + s.size + 1 = _
        omega
      have htl : ({ data := #[32] } ++ s ++ { data := #[32] } : ByteArray).data.toList = 32 :: (s.data.toList ++ [32]) := by
        simp
      generalize ({ data := #[32] } ++ s ++ { data := #[32] } : ByteArray) = t at *
      have HTL := hid htl
      have hb1 : s.size + 2 ≤ t.size := by omega
      have hb2 : t.size ≤ s.size + 2 := by omega
      clear hts htl
      go_loop [5] (fun i => ∃ j : Nat, j ≤ 92 ∧ i = .int .i64 j ∧ Hid (∀ m, m < j → ((wordsC.extract m (m + t.size)).toList == t.toList) = false)) (fun i => 93 - (intOf i).toNat)
      case atStart => exact ⟨0, by omega, rfl, fun m hm => absurd hm (by omega)⟩
      case round =>
        obtain ⟨j, hj, rfl, hmiss⟩ := hrel
        by_cases hle : j + t.size ≤ 93
        · go_wp2_with fail
          · go_ret
            refine ⟨ret_bool ?_, rfl⟩
            rw [found_word HTL.out hle HN.out (by assumption), ByteArray.toList_eq]
          · go_round
            case rel =>
              refine ⟨j + 1, by omega, by go_num, fun m hm => ?_⟩
              by_cases hmj : m = j
              · subst hmj; assumption
              · exact hmiss.out m (by omega)
            case measure => simp [intOf]; omega
        · go_wp2_with fail
          go_ret
          exact ⟨ret_bool (found_none HTL.out fun m hm => hmiss.out m (by omega)).symm, rfl⟩
end Go.Proofs.YtnlikhjmmnaknaaGreatDoor
/-
  The walk of the reference's Name.
-/
namespace Go.Proofs.YtnlikhjmmnaknaaGreatDoor
open Go.RowKit

def partsOnly (l : List UInt8) : Bool := l.all (fun c => isLetter (c.toNat : Int) || isDigit (c.toNat : Int))

theorem namedFrom_succ (l : List UInt8) : ∀ i, namedFrom (i + 1) l = partsOnly l := by
  induction l with
  | nil => intro i; rfl
  | cons c l ih =>
    intro i
    rw [namedFrom, ih]
    simp [partsOnly, partAt]

theorem not_both (c : Int) (h : isDigit c = true) : isLetter c = false := by
  simp [isDigit, isLetter] at *; omega

/-- the reference's test is the code's -/
theorem rname_eq (c : UInt8) (l : List UInt8) (h : partsOnly (c :: l) = true) : isName (c :: l) = (decide ((c :: l).length ≤ 20) && !isDigit (c.toNat : Int) && !isWord (c :: l)) := by
  simp only [partsOnly, List.all_cons, Bool.and_eq_true] at h
  unfold isName isNamed
  rw [namedFrom, namedFrom_succ]
  cases hd : isDigit (c.toNat : Int) with
  | true => simp [partAt, not_both _ hd]
  | false =>
    have hl : isLetter (c.toNat : Int) = true := by simpa [hd] using h.1
    have h2 := h.2
    unfold partsOnly
    rw [h2]
    simp [partAt, hl]

theorem rname_not (l : List UInt8) (h : partsOnly l = false) : isName l = false := by
  cases l with
  | nil => simp [partsOnly] at h
  | cons c l =>
    unfold isName isNamed
    rw [namedFrom, namedFrom_succ]
    simp only [partsOnly, List.all_cons] at h ⊢
    cases hl : isLetter (c.toNat : Int) with
    | true => simp [hl] at h; simp [partAt, hl]; intro hall; obtain ⟨x, hx, hn⟩ := h; exact absurd (hall x hx) (by simp [hn])
    | false => simp [partAt, hl]

set_option maxHeartbeats 400000 in
theorem rname_any (s : ByteArray) (w : World) (hs : s.size ≤ 1000000) :
    Calls Tryz.prog 50 #[.string s] w fun e w' => e = .returned (.bool (isName s.data.toList)) ∧ w = w' := by
  go_enter Tryz.func50, Tryz.ntmps50
  go_wp2_with fail
  go_loop [3] (fun i => ∃ j : Nat, j ≤ s.size ∧ i = .int .i64 j ∧ Hid (partsOnly s.data.toList = partsOnly (s.data.toList.drop j))) (fun i => s.size - (intOf i).toNat)
  case atStart => exact ⟨0, by omega, rfl, rfl⟩
  case round =>
    obtain ⟨j, hj, rfl, hrel⟩ := hrel
    by_cases hlt : j < s.size
    · have hd := byte_data s j hlt
      have hn : partsOnly s.data.toList = ((isLetter (s[j].toNat : Int) || isDigit (s[j].toNat : Int)) && partsOnly (s.data.toList.drop (j + 1))) := by
        rw [hrel.out, hd]; rfl
      have HN := hid hn
      clear hn hd hrel
      cases hp : (isLetter (s[j].toNat : Int) || isDigit (s[j].toNat : Int)) with
      | true =>
        go_wp2_with (go_at_call 86; refine (rpart_any _ _).mono ?_; rintro e w' ⟨rfl, rfl⟩)
        go_round
        case rel =>
          refine ⟨j + 1, by omega, by go_num, ?_⟩
          show _ = _
          rw [HN.out, hp, Bool.true_and]
        case measure => simp [intOf]; omega
      | false =>
        go_wp2_with (go_at_call 86; refine (rpart_any _ _).mono ?_; rintro e w' ⟨rfl, rfl⟩)
        go_ret
        refine ⟨ret_bool (rname_not _ ?_).symm, rfl⟩
        rw [HN.out, hp, Bool.false_and]
    · have : j = s.size := by omega
      subst this
      have HN : Hid (partsOnly s.data.toList = true) := by
        rw [hrel.out, List.drop_of_length_le (by simp)]; rfl
      clear hrel
      by_cases h0 : s.size = 0
      · have hl : s.data.toList = [] := by
          rw [size_len] at h0
          exact List.eq_nil_of_length_eq_zero h0
        have he : s.toList = [] := by rw [ByteArray.toList_eq, hl]
        have HL := hid hl
        clear hl
        go_wp2_with fail
        go_ret
        refine ⟨ret_bool ?_, rfl⟩
        rw [HL.out]; rfl
      · have h0' : 0 < s.size := by omega
        have hl := byte_data s 0 h0'
        rw [List.drop_zero] at hl
        have he : s.toList.isEmpty = false := by rw [ByteArray.toList_eq, hl]; rfl
        have HL := hid hl
        have hk := rname_eq s[0] (s.data.toList.drop (0 + 1)) (by rw [← hl]; exact HN.out)
        rw [← hl, ← size_len] at hk
        have HK := hid hk
        clear hl hk
        go_wp2_with (first | (go_at_call 87; refine (rdigit_any _ _).mono ?_; rintro e w' ⟨rfl, rfl⟩) | (go_at_call 88; refine (rword_any _ _ hs).mono ?_; rintro e w' ⟨rfl, rfl⟩))
        all_goals
          go_ret
          refine ⟨ret_bool ?_, rfl⟩
          rw [HK.out]
          simp [*]
          try (intros; omega)
end Go.Proofs.YtnlikhjmmnaknaaGreatDoor
