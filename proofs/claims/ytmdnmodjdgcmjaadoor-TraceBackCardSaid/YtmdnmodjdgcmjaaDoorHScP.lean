/-
  Numbers, words and lines of a text, in plain Lean.
-/
import Derived.Lib.AtoiAllCases
import Derived.Lib.ItoaMem
import Derived.Lib.ItoaLen
import Derived.Lib.FieldsP
import Derived.Lib.MapLaws
namespace Go.Proofs.YtmdnmodjdgcmjaaDoor
open Go.RowKit

/-! numbers -/
def R64 (v : Int) : Prop := -9223372036854775808 ≤ v ∧ v ≤ 9223372036854775807
def digB (c : UInt8) : Prop := 48 ≤ c.toNat ∧ c.toNat ≤ 57
theorem dig_of (d : Nat) (h : d < 10) : (UInt8.ofNat (48 + d)).toNat = 48 + d := by
  rw [UInt8.toNat_ofNat']; omega
theorem dec_all : ∀ (u : Nat), ∀ c ∈ Lib.decDigits u, digB c := by
  intro u
  induction u using Nat.strongRecOn with
  | ind u ih =>
    intro c hc
    rw [Lib.decDigits] at hc
    split at hc
    · obtain rfl := List.mem_singleton.1 hc
      unfold digB; rw [dig_of _ (by omega)]; omega
    · rcases List.mem_append.1 hc with hc | hc
      · exact ih (u / 10) (by omega) c hc
      · obtain rfl := List.mem_singleton.1 hc
        unfold digB; rw [dig_of _ (by omega)]; omega
theorem dec_pos (u : Nat) : 1 ≤ (Lib.decDigits u).length := by rw [Lib.decDigits_length]; exact Lib.nDigits_pos u
theorem dec_short : ∀ (k u : Nat), 1 ≤ k → u < 10 ^ k → (Lib.decDigits u).length ≤ k := by
  intro k
  induction k with
  | zero => intro u h; omega
  | succ k ih =>
    intro u _ hu
    rw [Lib.decDigits]
    split
    · simp
    · have hk : 1 ≤ k := by
        rcases Nat.eq_zero_or_pos k with rfl | h
        · simp at hu; omega
        · exact h
      have := ih (u / 10) hk (by rw [Nat.pow_succ] at hu; omega)
      simp; omega
theorem uint_app : ∀ (l : List UInt8) (acc : Nat) (r : List UInt8) (u : Nat), Lib.parseUint10 acc l = .ok u → Lib.parseUint10 acc (l ++ r) = Lib.parseUint10 u r
  | [], acc, r, u, h => by
    simp only [Lib.parseUint10] at h
    injection h with h
    subst h
    rfl
  | c :: l, acc, r, u, h => by
    simp only [Lib.parseUint10, List.cons_append] at h ⊢
    split at h
    · rename_i h1
      rw [if_pos h1]
      split at h
      · cases h
      · rename_i h2
        rw [if_neg h2]
        split at h
        · cases h
        · rename_i h3
          rw [if_neg h3]
          exact uint_app l _ r u h
    · cases h
theorem uint_one (acc d : Nat) (hd : d < 10) (h : acc * 10 + d < 18446744073709551616) : Lib.parseUint10 acc [UInt8.ofNat (48 + d)] = .ok (acc * 10 + d) := by
  simp only [Lib.parseUint10, dig_of d hd]
  rw [if_pos (by omega), if_neg (by omega), if_neg (by omega), show 48 + d - 48 = d by omega]
theorem uint_dec : ∀ (u : Nat), u < 18446744073709551616 → Lib.parseUint10 0 (Lib.decDigits u) = .ok u := by
  intro u
  induction u using Nat.strongRecOn with
  | ind u ih =>
    intro hu
    rw [Lib.decDigits]
    split
    · have := uint_one 0 u (by omega) (by omega)
      simpa using this
    · rw [uint_app _ _ _ _ (ih (u / 10) (by omega) (by omega)), uint_one _ _ (by omega) (by omega)]
      congr 1; omega
theorem dec_ne (u : Nat) : Lib.decDigits u ≠ [] := by
  intro h
  have := dec_pos u
  rw [h] at this
  simp at this
theorem mag_dec (u : Nat) (h : u < 18446744073709551616) : Lib.parseMag (Lib.decDigits u) = .ok u := by
  unfold Lib.parseMag
  rw [if_neg (dec_ne u), uint_dec u h]
theorem atoi_itoa {v : Int} (h : R64 v) : Lib.atoiAll (Lib.itoa v) = .ok v := by
  unfold R64 at h
  by_cases h0 : v < 0
  · obtain ⟨u, rfl⟩ : ∃ u : Nat, v = -(u : Int) := ⟨v.natAbs, by omega⟩
    rw [Lib.itoa_neg u (by omega)]
    simp only [Lib.atoiAll]
    have h45 : (45 : UInt8).toNat = 45 := rfl
    rw [h45, if_pos (.inr rfl), mag_dec u (by omega)]
    simp only [not_true_eq_false, false_and, if_false, true_and]
    rw [if_neg (by omega), if_pos trivial]
  · obtain ⟨u, rfl⟩ : ∃ u : Nat, v = (u : Int) := ⟨v.toNat, by omega⟩
    rw [Lib.itoa_nonneg]
    cases hd : Lib.decDigits u with
    | nil => exact absurd hd (dec_ne u)
    | cons c r =>
      have hc := dec_all u c (by rw [hd]; exact List.mem_cons_self ..)
      unfold digB at hc
      simp only [Lib.atoiAll]
      rw [if_neg (by omega), ← hd, mag_dec u (by omega)]
      have h45 : ¬ c.toNat = 45 := by omega
      simp only [h45, not_false_eq_true, true_and, false_and, if_false]
      rw [if_neg (by omega)]
/-- the number of a word -/
def numP (w : List UInt8) : Option Int := match Lib.atoiAll w with
  | .ok v => if Lib.itoa v = w then some v else none
  | _ => none
theorem numP_itoa {v : Int} (h : R64 v) : numP (Lib.itoa v) = some v := by
  unfold numP
  rw [atoi_itoa h]
  exact if_pos rfl
theorem numP_some {w : List UInt8} {v : Int} (h : numP w = some v) : w = Lib.itoa v ∧ R64 v := by
  unfold numP at h
  rcases ha : Lib.atoiAll w with u | _ | _
  · skip
    rw [ha] at h
    dsimp only at h
    split at h
    · injection h with h
      subst h
      rename_i h1
      exact ⟨h1.symm, Lib.atoiAll_bounds ha⟩
    · cases h
  · rw [ha] at h; cases h
  · rw [ha] at h; cases h
/-- the reference's digits -/
def digsOf : List UInt8 → List UInt8
  | [] => []
  | c :: t => if c = 45 then t else c :: t
def stepR (n : Int) (c : UInt8) : Int := IntKind.i64.wrap (IntKind.i64.wrap (10 * n) - ((c.toNat : Int) - 48))
def foldR (l : List UInt8) : Int := l.foldl stepR 0
theorem wrap_r {v : Int} (h : R64 v) : IntKind.i64.wrap v = v := by
  unfold R64 at h
  simp [IntKind.wrap, IntKind.bits, IntKind.signed]
  omega
theorem fold_dec : ∀ (u : Nat), u ≤ 9223372036854775808 → foldR (Lib.decDigits u) = -(u : Int) := by
  intro u
  induction u using Nat.strongRecOn with
  | ind u ih =>
    intro hu
    rw [Lib.decDigits]
    split
    · show stepR 0 _ = _
      unfold stepR
      rw [dig_of u (by omega), wrap_r (v := 10 * 0) (by unfold R64; omega), wrap_r (by unfold R64; omega)]
      omega
    · have h := ih (u / 10) (by omega) (by omega)
      unfold foldR at h ⊢
      rw [List.foldl_append, h]
      show stepR _ _ = _
      unfold stepR
      rw [dig_of _ (by omega), wrap_r (v := 10 * _) (by unfold R64; omega), wrap_r (by unfold R64; omega)]
      omega
theorem fold_bd (l : List UInt8) : R64 (foldR l) := by
  have hw : ∀ v : Int, R64 (IntKind.i64.wrap v) := fun v => by
    unfold R64
    simp [IntKind.wrap, IntKind.bits, IntKind.signed]
    omega
  have : ∀ (l : List UInt8) (n : Int), R64 n → R64 (l.foldl stepR n) := by
    intro l
    induction l with
    | nil => intro n h; exact h
    | cons c t ih => intro n _; exact ih _ (hw _)
  exact this l 0 (by unfold R64; omega)
/-- the number of a word that has digits, by the reference -/
def readV (w : List UInt8) : Int := if digsOf w ≠ w then foldR (digsOf w) else IntKind.i64.wrap (-foldR (digsOf w))
theorem digs_itoa {v : Int} (h : R64 v) : (∀ c ∈ digsOf (Lib.itoa v), digB c) ∧ 1 ≤ (digsOf (Lib.itoa v)).length ∧ (digsOf (Lib.itoa v)).length ≤ 19 ∧ readV (Lib.itoa v) = v := by
  unfold R64 at h
  by_cases h0 : v < 0
  · obtain ⟨u, rfl⟩ : ∃ u : Nat, v = -(u : Int) := ⟨v.natAbs, by omega⟩
    have hd : digsOf (Lib.itoa (-(u : Int))) = Lib.decDigits u := by rw [Lib.itoa_neg u (by omega)]; rfl
    refine ⟨by rw [hd]; exact dec_all u, by rw [hd]; exact dec_pos u, by rw [hd]; exact dec_short 19 u (by omega) (by omega), ?_⟩
    unfold readV
    rw [if_pos, hd, fold_dec u (by omega)]
    rw [hd, Lib.itoa_neg u (by omega)]
    intro h1
    have := congrArg List.length h1
    simp at this
  · obtain ⟨u, rfl⟩ : ∃ u : Nat, v = (u : Int) := ⟨v.toNat, by omega⟩
    have hd : digsOf (Lib.itoa (u : Int)) = Lib.decDigits u := by
      rw [Lib.itoa_nonneg]
      cases hd : Lib.decDigits u with
      | nil => rfl
      | cons c r =>
        have hc := dec_all u c (by rw [hd]; exact List.mem_cons_self ..)
        unfold digB at hc
        have : ¬ c = 45 := fun e => by subst e; simp at hc
        simp [digsOf, this]
    refine ⟨by rw [hd]; exact dec_all u, by rw [hd]; exact dec_pos u, by rw [hd]; exact dec_short 19 u (by omega) (by omega), ?_⟩
    unfold readV
    rw [if_neg, hd, fold_dec u (by omega), wrap_r (by unfold R64; omega)]
    · omega
    · rw [hd, Lib.itoa_nonneg]; simp
/-- a word that is no number for it has no such digits -/
theorem read_none {w : List UInt8} (h : (digsOf w).length = 0 ∨ 19 < (digsOf w).length ∨ ∃ c ∈ digsOf w, ¬ digB c) : numP w = none := by
  cases hn : numP w with
  | none => rfl
  | some v =>
    obtain ⟨rfl, hv⟩ := numP_some hn
    obtain ⟨h1, h2, h3, _⟩ := digs_itoa hv
    rcases h with h | h | ⟨c, hc, h⟩
    · omega
    · omega
    · exact absurd (h1 c hc) h
theorem read_some (w : List UInt8) : numP w = if Lib.itoa (readV w) = w then some (readV w) else none := by
  split
  · rename_i h
    have hv : R64 (readV w) := by
      unfold readV
      split
      · exact fold_bd _
      · unfold R64
        simp [IntKind.wrap, IntKind.bits, IntKind.signed]
        omega
    have := numP_itoa hv
    rwa [h] at this
  · rename_i h
    cases hn : numP w with
    | none => rfl
    | some v =>
      obtain ⟨rfl, hv⟩ := numP_some hn
      rw [(digs_itoa hv).2.2.2] at h
      exact absurd rfl h

/-! words and lines -/
def blankB (c : UInt8) : Bool := c == 32 || c == 9 || c == 13
def wordsGo : List UInt8 → List UInt8 → List (List UInt8)
  | [], cur => if cur = [] then [] else [cur]
  | c :: t, cur => if blankB c = true then (if cur = [] then wordsGo t [] else cur :: wordsGo t []) else wordsGo t (cur ++ [c])
def wordsOf (l : List UInt8) : List (List UInt8) := wordsGo l []
def linesGo : List UInt8 → List UInt8 → List (List UInt8)
  | [], cur => [cur]
  | c :: t, cur => if c = 10 then cur :: linesGo t [] else linesGo t (cur ++ [c])
def linesOf (l : List UInt8) : List (List UInt8) := linesGo l []

/-- a rune that begins at a place: a byte of its own, or no byte of it is one -/
theorem rune_step (s : ByteArray) (pos : Nat) (h : pos < s.size) : 1 ≤ (Utf8.decode s pos).2 ∧ pos + (Utf8.decode s pos).2 ≤ s.size ∧ (((s.get! pos).toNat < 128 ∧ Utf8.decode s pos = ((s.get! pos).toNat, 1)) ∨ (128 ≤ (Utf8.decode s pos).1 ∧ ∀ j, j < (Utf8.decode s pos).2 → 128 ≤ (s.get! (pos + j)).toNat)) := by
  have hd := Lib.decode_at s pos
  have hc := Lib.decodeN_shape (s.size - pos) (s.get! pos).toNat (s.get! (pos + 1)).toNat (s.get! (pos + 2)).toNat (s.get! (pos + 3)).toNat
  rw [← hd] at hc
  have hb : ¬ (s.get! pos).toNat < 128 → ∀ k, k ≤ 4 → (1 < k → 128 ≤ (s.get! (pos + 1)).toNat) → (2 < k → 128 ≤ (s.get! (pos + 2)).toNat) → (3 < k → 128 ≤ (s.get! (pos + 3)).toNat) → ∀ j, j < k → 128 ≤ (s.get! (pos + j)).toNat := fun h0 k hk h1 h2 h3 j hj => by
    match j, hj with
    | 0, _ => simpa using h0
    | 1, hj => exact h1 hj
    | 2, hj => exact h2 hj
    | 3, hj => exact h3 hj
    | j + 4, hj => omega
  by_cases h0 : (s.get! pos).toNat < 128
  · have : Utf8.decode s pos = ((s.get! pos).toNat, 1) := by
      rw [hd]; unfold Lib.decodeN; rw [if_pos h0]
    rw [this]
    exact ⟨Nat.le_refl _, by simp only; omega, .inl ⟨h0, rfl⟩⟩
  · rcases hc with ⟨c0, _⟩ | ⟨_, c1, c2, c3, e⟩ | ⟨_, c1, c2, c3, c4, _, e⟩ | ⟨_, c1, c2, c3, c4, c5, _, e⟩ | e
    · exact absurd c0 h0
    · rw [e]; exact ⟨by simp, by simp only; omega, .inr ⟨c3, hb h0 2 (by omega) (fun _ => by omega) (fun h => by omega) (fun h => by omega)⟩⟩
    · rw [e]; exact ⟨by simp, by simp only; omega, .inr ⟨by simp only; omega, hb h0 3 (by omega) (fun _ => by omega) (fun _ => by omega) (fun h => by omega)⟩⟩
    · rw [e]; exact ⟨by simp, by simp only; omega, .inr ⟨by simp only; omega, hb h0 4 (by omega) (fun _ => by omega) (fun _ => by omega) (fun _ => by omega)⟩⟩
    · rw [e]; exact ⟨by simp, by simp only; omega, .inr ⟨by simp, hb h0 1 (by omega) (fun h => by omega) (fun h => by omega) (fun h => by omega)⟩⟩
theorem drop_get (s : ByteArray) (pos : Nat) (h : pos < s.size) : s.data.toList.drop pos = s.get! pos :: s.data.toList.drop (pos + 1) := by
  have hl : pos < s.data.toList.length := by rw [Array.length_toList]; exact h
  rw [List.drop_eq_getElem_cons hl]
  congr 1
  show s.data.toList[pos] = s.data[pos]!
  rw [getElem!_pos s.data pos (by simpa using hl)]
  rfl
theorem words_many : ∀ (k : Nat) (l cur : List UInt8), k ≤ l.length → (∀ c ∈ l.take k, blankB c = false) → wordsGo l cur = wordsGo (l.drop k) (cur ++ l.take k) := by
  intro k
  induction k with
  | zero => intro l cur _ _; simp
  | succ k ih =>
    intro l cur hl hb
    cases l with
    | nil => simp at hl
    | cons c t =>
      have hc : blankB c = false := hb c (by simp)
      rw [wordsGo, hc]
      simp only [Bool.false_eq_true, if_false]
      rw [ih t (cur ++ [c]) (by simpa using hl) fun x hx => hb x (by simp [hx])]
      simp
theorem lines_many : ∀ (k : Nat) (l cur : List UInt8), k ≤ l.length → (∀ c ∈ l.take k, c ≠ 10) → linesGo l cur = linesGo (l.drop k) (cur ++ l.take k) := by
  intro k
  induction k with
  | zero => intro l cur _ _; simp
  | succ k ih =>
    intro l cur hl hb
    cases l with
    | nil => simp at hl
    | cons c t =>
      have hc : c ≠ 10 := hb c (by simp)
      rw [linesGo, if_neg hc]
      rw [ih t (cur ++ [c]) (by simpa using hl) fun x hx => hb x (by simp [hx])]
      simp
/-- the bytes of a longer rune -/
theorem take_high (s : ByteArray) (pos : Nat) : ∀ (k : Nat), pos + k ≤ s.size → (∀ j, j < k → 128 ≤ (s.get! (pos + j)).toNat) → ∀ c ∈ (s.data.toList.drop pos).take k, 128 ≤ c.toNat := by
  intro k
  induction k generalizing pos with
  | zero => intro _ _ c hc; simp at hc
  | succ k ih =>
    intro hk hj c hc
    rw [drop_get s pos (by omega), List.take_succ_cons] at hc
    rcases List.mem_cons.1 hc with rfl | hc
    · exact hj 0 (by omega)
    · exact ih (pos + 1) (by omega) (fun j h => by have := hj (j + 1) (by omega); rwa [show pos + (j + 1) = pos + 1 + j by omega] at this) c hc
theorem blank_low {c : UInt8} (h : 128 ≤ c.toNat) : blankB c = false ∧ c ≠ 10 := by
  refine ⟨?_, fun e => by subst e; simp at h⟩
  unfold blankB
  have h1 : c ≠ 32 := fun e => by subst e; simp at h
  have h2 : c ≠ 9 := fun e => by subst e; simp at h
  have h3 : c ≠ 13 := fun e => by subst e; simp at h
  simp [h1, h2, h3]
def blankR (r : Nat) : Bool := r == 32 || r == 9 || r == 13
theorem blank_r (c : UInt8) : blankR c.toNat = blankB c := by
  unfold blankR blankB
  have h : ∀ d : UInt8, (c.toNat == d.toNat) = (c == d) := fun d => by
    rw [Bool.eq_iff_iff, beq_iff_eq, beq_iff_eq]
    exact UInt8.toNat_inj
  have h1 := h 32
  have h2 := h 9
  have h3 := h 13
  rw [← h1, ← h2, ← h3]
  rfl
def pieceOf (s : ByteArray) (x : Nat × Nat) : List UInt8 := Lib.pieceU s.data.toList x.1 x.2
theorem spans_words (s : ByteArray) : ∀ (f pos : Nat) (st : Option Nat) (acc : List (Nat × Nat)), s.size ≤ pos + f → pos ≤ s.size → (∀ a, st = some a → a < pos) →
    (Lib.closeSpans s (Lib.spansFromP blankR s f pos st acc)).map (pieceOf s) = acc.map (pieceOf s) ++ wordsGo (s.data.toList.drop pos) (Lib.openPiece s.data.toList st pos) := by
  have hlen : s.data.toList.length = s.size := by rw [Array.length_toList]; rfl
  intro f
  induction f with
  | zero =>
    intro pos st acc hf hp hs
    have : pos = s.size := by omega
    subst this
    rw [Lib.spansFromP_end _ _ _ _ _ _ (by omega), List.drop_eq_nil_of_le (by omega)]
    cases st with
    | none => simp [Lib.closeSpans, Lib.openPiece, wordsGo]
    | some a =>
      have := Lib.pieceU_ne s.data.toList a s.size (hs a rfl) (by omega)
      simp [Lib.closeSpans, Lib.openPiece, wordsGo, this, pieceOf]
  | succ f ih =>
    intro pos st acc hf hp hs
    by_cases hlt : pos < s.size
    · obtain ⟨h1, h2, h3⟩ := rune_step s pos hlt
      unfold Lib.spansFromP
      rw [if_pos hlt]
      rcases h3 with ⟨hb, he⟩ | ⟨hr, hk⟩
      · rw [he]
        dsimp only
        rw [blank_r, drop_get s pos hlt, wordsGo]
        cases hbl : blankB (s.get! pos) with
        | true =>
          simp only [if_true]
          cases st with
          | none =>
            dsimp only
            rw [ih (pos + 1) none acc (by omega) (by omega) (fun a h => by cases h)]
            simp [Lib.openPiece]
          | some a =>
            dsimp only
            rw [ih (pos + 1) none _ (by omega) (by omega) (fun a h => by cases h)]
            have := Lib.pieceU_ne s.data.toList a pos (hs a rfl) (by omega)
            simp [Lib.openPiece, this, pieceOf]
        | false =>
          simp only [Bool.false_eq_true, if_false]
          have hg := fun a h => Lib.pieceU_grow s.data.toList a pos 1 h
          have ht : (s.data.toList.drop pos).take 1 = [s.get! pos] := by rw [drop_get s pos hlt]; rfl
          rw [ht] at hg
          cases st with
          | none =>
            dsimp only
            rw [ih (pos + 1) (some pos) acc (by omega) (by omega) (fun a h => by injection h with h; omega)]
            simp only [Lib.openPiece]
            rw [← hg pos (Nat.le_refl _)]
            simp [Lib.pieceU]
          | some a =>
            dsimp only
            rw [ih (pos + 1) (some a) acc (by omega) (by omega) (fun b h => by injection h with h; have := hs a rfl; omega)]
            simp only [Lib.openPiece]
            rw [← hg a (by have := hs a rfl; omega)]
      · have hbl : blankR (Utf8.decode s pos).1 = false := by
          unfold blankR
          have e1 : (Utf8.decode s pos).1 ≠ 32 := by omega
          have e2 : (Utf8.decode s pos).1 ≠ 9 := by omega
          have e3 : (Utf8.decode s pos).1 ≠ 13 := by omega
          simp [e1, e2, e3]
        generalize Utf8.decode s pos = q at *
        obtain ⟨r, k⟩ := q
        dsimp only at *
        rw [hbl]
        simp only [Bool.false_eq_true, if_false]
        have hm := words_many k (s.data.toList.drop pos) (Lib.openPiece s.data.toList st pos) (by rw [List.length_drop]; omega) fun c hc => (blank_low (take_high s pos k h2 hk c hc)).1
        rw [hm, List.drop_drop]
        have hg := fun a h => Lib.pieceU_grow s.data.toList a pos k h
        cases st with
        | none =>
          dsimp only
          rw [ih (pos + k) (some pos) acc (by omega) (by omega) (fun a h => by injection h with h; omega)]
          simp only [Lib.openPiece]
          rw [← hg pos (Nat.le_refl _)]
          simp [Lib.pieceU]
        | some a =>
          dsimp only
          rw [ih (pos + k) (some a) acc (by omega) (by omega) (fun b h => by injection h with h; have := hs a rfl; omega)]
          simp only [Lib.openPiece]
          rw [← hg a (by have := hs a rfl; omega)]
    · have : pos = s.size := by omega
      subst this
      rw [Lib.spansFromP_end _ _ _ _ _ _ (by omega), List.drop_eq_nil_of_le (by omega)]
      cases st with
      | none => simp [Lib.closeSpans, Lib.openPiece, wordsGo]
      | some a =>
        have := Lib.pieceU_ne s.data.toList a s.size (hs a rfl) (by omega)
        simp [Lib.closeSpans, Lib.openPiece, wordsGo, this, pieceOf]
theorem piece_extract (s : ByteArray) (a b : Nat) : (s.extract a b).data.toList = Lib.pieceU s.data.toList a b := by
  unfold Lib.pieceU
  simp [ByteArray.extract, ByteArray.copySlice]
/-- the fields of a text are its words -/
theorem fields_words (s : ByteArray) : Lib.goFieldsP blankR s = (wordsOf s.data.toList).map fun l => (⟨l.toArray⟩ : ByteArray) := by
  have h := spans_words s s.size 0 none [] (by omega) (Nat.zero_le _) (fun a h => by cases h)
  have h' : (Lib.spansOfP blankR s).map (pieceOf s) = wordsOf s.data.toList := by simpa [Lib.spansOfP, wordsOf, Lib.openPiece] using h
  rw [← h', List.map_map]
  unfold Lib.goFieldsP
  refine List.map_congr_left fun x _ => ?_
  show _ = (⟨(pieceOf s x).toArray⟩ : ByteArray)
  unfold pieceOf
  rw [← piece_extract]
end Go.Proofs.YtmdnmodjdgcmjaaDoor
