/-
  Plain: what is written is read as it was; whatever is read is written so.
-/
import Derived.Test.YtmdnmodjdgcmjaaDoorHTrN
namespace Go.Proofs.YtmdnmodjdgcmjaaDoor

/-- a byte of a value -/
def okC (c : UInt8) : Prop := c ≠ 32 ∧ c ≠ 10 ∧ c ≠ 62
theorem itoa_okC (v : Int) : ∀ c ∈ Lib.itoa v, okC c := by
  have hd : ∀ c, digB c → okC c := fun c hc => by
    unfold digB at hc
    unfold okC
    refine ⟨?_, ?_, ?_⟩ <;> (rintro rfl; revert hc; decide)
  intro c hc
  by_cases h0 : v < 0
  · obtain ⟨u, rfl⟩ : ∃ u : Nat, v = -(u : Int) := ⟨v.natAbs, by omega⟩
    rw [Lib.itoa_neg u (by omega)] at hc
    rcases List.mem_cons.1 hc with rfl | hc
    · unfold okC; decide
    · exact hd c (dec_all u c hc)
  · obtain ⟨u, rfl⟩ : ∃ u : Nat, v = (u : Int) := ⟨v.toNat, by omega⟩
    rw [Lib.itoa_nonneg] at hc
    exact hd c (dec_all u c hc)
theorem valT_okC {t v : Int} : ∀ c ∈ valT t v, okC c := by
  unfold valT
  split
  · split
    · unfold tT okC; decide
    · unfold fF okC; decide
  · exact itoa_okC v
theorem zip_okC : ∀ (ts l : List Int), ∀ x ∈ List.zipWith valT ts l, ∀ c ∈ x, okC c
  | [], _, x, hx => by cases hx
  | _ :: _, [], x, hx => by cases hx
  | t :: ts, v :: l, x, hx => by
    rw [List.zipWith_cons_cons] at hx
    rcases List.mem_cons.1 hx with rfl | hx
    · exact valT_okC
    · exact zip_okC ts l x hx
/-- joined words, parted again -/
theorem join_split : ∀ (l cur : List UInt8), Lib.join (splitGo l cur) [32] = cur ++ l
  | [], cur => by rw [splitGo, Lib.join_one, List.append_nil]
  | c :: l, cur => by
    rw [splitGo]
    by_cases h : c = 32
    · subst h
      rw [if_pos rfl]
      have ih := join_split l []
      cases hs : splitGo l [] with
      | nil => exact absurd hs (split_ne l [])
      | cons a t =>
        rw [hs, Lib.join_cons] at ih
        rw [Lib.join_cons]
        show cur ++ (([32] ++ a) ++ Lib.joinTail [32] t) = _
        rw [List.append_assoc, ih]; simp
    · rw [if_neg h, join_split l (cur ++ [c])]; simp
theorem split_join : ∀ (a : List UInt8) (r : List (List UInt8)), (∀ x ∈ a :: r, ∀ c ∈ x, c ≠ 32) → splitS (Lib.join (a :: r) [32]) = a :: r
  | a, [], h => by
    rw [Lib.join_one]
    unfold splitS
    rw [split_one a [] (h a (List.mem_cons_self ..))]; rfl
  | a, b :: r, h => by
    have ih := split_join b r fun x hx => h x (List.mem_cons_of_mem _ hx)
    rw [Lib.join_cons] at ih ⊢
    show splitS (a ++ (([32] ++ b) ++ Lib.joinTail [32] r)) = _
    rw [List.append_assoc, show ([32] : List UInt8) ++ (b ++ Lib.joinTail [32] r) = 32 :: (b ++ Lib.joinTail [32] r) from rfl, split_word a _ (h a (List.mem_cons_self ..)), ih]
theorem rdV_val {t v : Int} (hf : fitB t v = true) (hv : R64 v) : rdV t (valT t v) = some v := by
  unfold rdV valT
  by_cases ht : t = 2
  · subst ht
    rw [if_pos rfl, if_pos rfl]
    unfold fitB at hf
    by_cases h1 : v = 1
    · subst h1; decide
    · have h0 : v = 0 := by
        have : ¬ (v == 1) = true := by simpa using h1
        simpa [this] using hf
      subst h0; decide
  · rw [if_neg ht, if_neg ht]; exact numP_itoa hv
theorem rdR_zip : ∀ (ts l : List Int), l.length = ts.length → (fitsZ ts l).all id = true → (∀ v ∈ l, R64 v) → rdR ts (List.zipWith valT ts l) = some l
  | [], [], _, _, _ => rfl
  | [], _ :: _, h, _, _ => by cases h
  | _ :: _, [], h, _, _ => by cases h
  | t :: ts, v :: l, h, hf, h64 => by
    unfold fitsZ at hf
    rw [List.zipWith_cons_cons, List.all_cons, Bool.and_eq_true] at hf
    rw [List.zipWith_cons_cons, rdR, rdV_val hf.1 (h64 v (List.mem_cons_self ..))]
    dsimp only
    rw [rdR_zip ts l (by simpa using h) hf.2 fun x hx => h64 x (List.mem_cons_of_mem _ hx)]
/-- a row that fits is read as it was -/
theorem rowR_row {ts l : List Int} (h : fitsT ts l = true) (h64 : ∀ v ∈ l, R64 v) : rowR ts (rowT ts l) = some l := by
  obtain ⟨hr, hl, hf⟩ := fits_cons h
  have h1 := (right_cons hr).1
  unfold rowR rowT
  have hz := rdR_zip ts l hl hf h64
  have ho := zip_okC ts l
  cases hw : List.zipWith valT ts l with
  | nil =>
    have := congrArg List.length hw
    rw [List.length_zipWith, List.length_nil] at this
    omega
  | cons a r =>
    rw [hw] at hz ho
    rw [split_join a r fun x hx c hc => (ho x hx c hc).1]
    exact hz
/-- a row that is read is written so -/
theorem row_rowR {ts l : List Int} {s : List UInt8} (hr : rightT ts = true) (h : rowR ts s = some l) : fitsT ts l = true ∧ rowT ts l = s := by
  unfold rowR at h
  obtain ⟨h1, h2, h3⟩ := rdR_fit h
  refine ⟨?_, ?_⟩
  · unfold fitsT
    rw [hr, h2, h1]; simp
  · unfold rowT
    rw [h3]
    unfold splitS
    rw [join_split]; rfl
theorem join_okC : ∀ (a : List UInt8) (r : List (List UInt8)), (∀ x ∈ a :: r, ∀ c ∈ x, okC c) → ∀ c ∈ Lib.join (a :: r) [32], c ≠ 10 ∧ c ≠ 62
  | a, [], h, c, hc => by
    rw [Lib.join_one] at hc
    exact (h a (List.mem_cons_self ..) c hc).2
  | a, b :: r, h, c, hc => by
    have ih := join_okC b r fun x hx => h x (List.mem_cons_of_mem _ hx)
    rw [Lib.join_cons] at ih hc
    rcases List.mem_append.1 hc with hc | hc
    · exact (h a (List.mem_cons_self ..) c hc).2
    · have hc : c ∈ ([32] ++ b) ++ Lib.joinTail [32] r := hc
      rw [List.append_assoc] at hc
      rcases List.mem_append.1 hc with hc | hc
      · rw [List.mem_singleton.1 hc]; decide
      · exact ih c hc
theorem row_okC (ts l : List Int) : ∀ c ∈ rowT ts l, c ≠ 10 ∧ c ≠ 62 := by
  unfold rowT
  have ho := zip_okC ts l
  cases hw : List.zipWith valT ts l with
  | nil => intro c hc; cases hc
  | cons a r => rw [hw] at ho; exact join_okC a r ho
/-- the arrow behind bytes that are none of it -/
theorem index_arrow : ∀ (x tl : List UInt8), (∀ c ∈ x, c ≠ 62) → Lib.index (x ++ arrow ++ tl) arrow = x.length
  | [], tl, _ => by
    show Lib.index (32 :: 45 :: 62 :: tl) arrow = 0
    rw [Lib.index, if_pos (by rfl)]
  | c :: x, tl, h => by
    have ih := index_arrow x tl fun y hy => h y (List.mem_cons_of_mem _ hy)
    have hp : List.isPrefixOf arrow (c :: x ++ arrow ++ tl) = false := by
      match x, h with
      | [], _ => simp [arrow, List.isPrefixOf]
      | [d], _ => simp [arrow, List.isPrefixOf]
      | d :: e :: y, h =>
        have he : e ≠ 62 := h e (by simp)
        simp only [arrow, List.cons_append, List.isPrefixOf, Bool.and_eq_false_iff, beq_eq_false_iff_ne]
        exact .inr (.inr (.inl (Ne.symm he)))
    rw [List.cons_append, List.cons_append] at hp ⊢
    rw [Lib.index, hp, ih]
    have : ((x.length : Int) == -1) = false := beq_eq_false_iff_ne.2 (by omega)
    simp [this]
theorem cut_arrow (x tl : List UInt8) (h : ∀ c ∈ x, c ≠ 62) : Lib.cut (x ++ arrow ++ tl) arrow = (x, tl, true) := by
  unfold Lib.cut
  rw [index_arrow x tl h, if_pos (by omega)]
  simp [arrow]
theorem index_spec : ∀ (z : List UInt8), Lib.index z arrow = -1 ∨ ∃ x tl, z = x ++ arrow ++ tl ∧ Lib.index z arrow = x.length
  | [] => .inl rfl
  | b :: t => by
    by_cases hp : List.isPrefixOf arrow (b :: t) = true
    · obtain ⟨tl, ht⟩ := List.isPrefixOf_iff_prefix.1 hp
      exact .inr ⟨[], tl, ht.symm, by rw [Lib.index, if_pos hp]; rfl⟩
    · rcases index_spec t with h1 | ⟨x, tl, h1, h2⟩
      · exact .inl (by rw [Lib.index, if_neg hp, h1]; rfl)
      · refine .inr ⟨b :: x, tl, by rw [h1]; rfl, ?_⟩
        rw [Lib.index, if_neg hp, h2]
        have : ((x.length : Int) == -1) = false := beq_eq_false_iff_ne.2 (by omega)
        simp [this]
theorem cut_spec {z x tl : List UInt8} (h : Lib.cut z arrow = (x, tl, true)) : z = x ++ arrow ++ tl := by
  unfold Lib.cut at h
  rcases index_spec z with h1 | ⟨y, t, h1, h2⟩
  · rw [h1] at h; cases h
  · rw [h2, if_pos (by omega)] at h
    injection h with h3 h4
    injection h4 with h4 _
    rw [← h3, ← h4, h1]
    simp [arrow]
theorem pre_app (p s : List UInt8) : Lib.hasPrefix (p ++ s) p = true ∧ Lib.trimPrefix (p ++ s) p = s := by
  have h : Lib.hasPrefix (p ++ s) p = true := by
    unfold Lib.hasPrefix
    rw [List.isPrefixOf_iff_prefix]
    exact List.prefix_append _ _
  refine ⟨h, ?_⟩
  unfold Lib.trimPrefix
  rw [if_pos h]; simp
theorem pre_spec {s p : List UInt8} (h : Lib.hasPrefix s p = true) : s = p ++ Lib.trimPrefix s p := by
  have h' := h
  unfold Lib.hasPrefix at h'
  obtain ⟨t, ht⟩ := List.isPrefixOf_iff_prefix.1 h'
  unfold Lib.trimPrefix
  rw [if_pos h, ← ht]; simp

/-! lines -/
def tlT (us : List Int) : Option (List Int) → List UInt8
  | none => []
  | some b => 32 :: rowT us b
def bodyT (ts us : List Int) (k : Nat) (a : List Int) (b : Option (List Int)) : List UInt8 := headT k ++ (rowT ts a ++ arrow ++ tlT us b)
theorem line_body (ts us : List Int) (k : Nat) (a : List Int) (b : Option (List Int)) : lineT ts us k a b = bodyT ts us k a b ++ [10] := by
  unfold lineT bodyT headT arrow
  cases b <;> simp [tlT]
section
variable {ts us : List Int} {k : Nat} {a : List Int} {b : Option (List Int)}
theorem body_no10 : ∀ c ∈ bodyT ts us k a b, c ≠ 10 := by
  unfold bodyT headT
  intro c hc
  rcases List.mem_append.1 hc with hc | hc
  · rcases List.mem_append.1 hc with hc | hc
    · exact (itoa_okC _ c hc).2.1
    · exact (show ∀ c ∈ ([58, 32] : List UInt8), c ≠ 10 by decide) c hc
  · rcases List.mem_append.1 hc with hc | hc
    · rcases List.mem_append.1 hc with hc | hc
      · exact (row_okC ts a c hc).1
      · exact (show ∀ c ∈ arrow, c ≠ 10 by unfold arrow; decide) c hc
    · cases b with
      | none => cases hc
      | some b =>
        rcases List.mem_cons.1 hc with rfl | hc
        · decide
        · exact (row_okC us b c hc).1
/-- what is written is read -/
theorem line_back (ha : fitsT ts a = true) (ha64 : ∀ v ∈ a, R64 v) (hb : ∀ x, b = some x → fitsT us x = true ∧ ∀ v ∈ x, R64 v) : lineP ts us k (bodyT ts us k a b) = some (a, b.getD []) := by
  unfold lineP
  obtain ⟨h1, h2⟩ := pre_app (headT k) (rowT ts a ++ arrow ++ tlT us b)
  unfold bodyT
  rw [if_pos h1, h2, cut_arrow _ _ (fun c hc => (row_okC ts a c hc).2)]
  unfold bodyP
  dsimp only
  rw [if_pos rfl, rowR_row ha ha64]
  dsimp only
  unfold tailP
  cases b with
  | none => rfl
  | some b =>
    obtain ⟨hf, h64⟩ := hb b rfl
    have h3 := pre_app [32] (rowT us b)
    rw [show ([32] : List UInt8) ++ rowT us b = 32 :: rowT us b from rfl] at h3
    rw [show tlT us (some b) = 32 :: rowT us b from rfl, if_neg (by simp), if_pos h3.1, h3.2, rowR_row hf h64]; rfl
/-- what is read is written so -/
theorem back_line {s : List UInt8} {y : List Int} (hr1 : rightT ts = true) (hr2 : rightT us = true) (h : lineP ts us k s = some (a, y)) : s = bodyT ts us k a (if y = [] then none else some y) ∧ fitsT ts a = true ∧ (y ≠ [] → fitsT us y = true) := by
  unfold lineP at h
  by_cases hp : Lib.hasPrefix s (headT k) = true
  · rw [if_pos hp] at h
    have hs := pre_spec hp
    generalize Lib.trimPrefix s (headT k) = z at *
    rcases hq : Lib.cut z arrow with ⟨q1, q2, q3⟩
    rw [hq] at h
    unfold bodyP at h
    dsimp only at h
    cases q3 with
    | false => rw [if_neg (by decide)] at h; cases h
    | true =>
      rw [if_pos rfl] at h
      have hz := cut_spec hq
      cases hx : rowR ts q1 with
      | none => rw [hx] at h; cases h
      | some la =>
        rw [hx] at h
        dsimp only at h
        obtain ⟨g1, g2⟩ := row_rowR hr1 hx
        unfold tailP at h
        by_cases hb : q2 = []
        · rw [if_pos hb] at h
          injection h with h
          injection h with h1 h2
          subst h1 h2 hb
          refine ⟨?_, g1, fun h => absurd rfl h⟩
          rw [hs, hz, if_pos rfl]
          unfold bodyT
          rw [g2]
          rfl
        · rw [if_neg hb] at h
          by_cases h32 : Lib.hasPrefix q2 [32] = true
          · rw [if_pos h32] at h
            have hq2 := pre_spec h32
            generalize Lib.trimPrefix q2 [32] = u at *
            cases hy : rowR us u with
            | none => rw [hy] at h; cases h
            | some lb =>
              rw [hy] at h
              dsimp only at h
              injection h with h
              injection h with h1 h2
              subst h1 h2
              obtain ⟨g3, g4⟩ := row_rowR hr2 hy
              have hne : lb ≠ [] := by
                intro e
                have := (fits_cons g3).2.1
                have h5 := (right_cons hr2).1
                rw [e] at this
                simp at this
                omega
              refine ⟨?_, g1, fun _ => g3⟩
              rw [hs, hz, hq2, if_neg hne]
              unfold bodyT
              rw [show tlT us (some lb) = 32 :: rowT us lb from rfl, g2, g4]; rfl
          · rw [if_neg h32] at h; cases h
  · rw [if_neg hp] at h; cases h
end

/-! traces -/
section
variable {ts us : List Int}
/-- so far: the rows' text -/
structure Good (ts us : List Int) (p q : List (List Int)) (t : List UInt8) : Prop where
  le : q.length ≤ p.length
  ok : ∀ j, j < p.length → okAt ts us p q j = true
  txt : uptoT ts us p q p.length = t
theorem upto_same {p p' q q' : List (List Int)} : ∀ n, (∀ j, j < n → p.getD j [] = p'.getD j [] ∧ q[j]? = q'[j]?) → uptoT ts us p q n = uptoT ts us p' q' n
  | 0, _ => rfl
  | n + 1, h => by
    rw [uptoT, uptoT, upto_same n fun j hj => h j (by omega)]
    unfold lineAt
    rw [(h n (by omega)).1, (h n (by omega)).2]
theorem Good.step {p q : List (List Int)} {t : List UInt8} {a : List Int} {b : List Int} (h : Good ts us p q t) (ha : fitsT ts a = true) (hb : b ≠ [] → fitsT us b = true) (hq : ¬ (b ≠ [] ∧ q.length < p.length)) :
    Good ts us (p ++ [a]) (if b = [] then q else q ++ [b]) (t ++ lineT ts us p.length a (if b = [] then none else some b)) := by
  have hpj : ∀ j, j < p.length → (p ++ [a]).getD j [] = p.getD j [] := fun j hj => by
    rw [List.getD_eq_getElem?_getD, List.getD_eq_getElem?_getD, List.getElem?_append_left hj]
  have hpl : (p ++ [a]).getD p.length [] = a := by simp
  have hqj : ∀ j, j < p.length → (if b = [] then q else q ++ [b])[j]? = q[j]? := fun j hj => by
    split
    · rfl
    · rename_i hne
      rw [List.getElem?_append_left (by have := h.le; have : ¬ q.length < p.length := fun hh => hq ⟨hne, hh⟩; omega)]
  have hql : (if b = [] then q else q ++ [b])[p.length]? = if b = [] then none else some b := by
    split
    · exact List.getElem?_eq_none h.le
    · rename_i hne
      have : q.length = p.length := by have := h.le; have : ¬ q.length < p.length := fun hh => hq ⟨hne, hh⟩; omega
      rw [← this]; simp
  refine ⟨?_, fun j hj => ?_, ?_⟩
  · split
    · have := h.le; simp; omega
    · have := h.le; simp; omega
  · rw [List.length_append, List.length_singleton] at hj
    unfold okAt
    by_cases hj2 : j < p.length
    · rw [hpj j hj2, hqj j hj2]
      exact h.ok j hj2
    · obtain rfl : j = p.length := by omega
      rw [hpl, hql, ha]
      by_cases hbe : b = []
      · rw [if_pos hbe]; rfl
      · rw [if_neg hbe]; exact hb hbe
  · rw [List.length_append, List.length_singleton, uptoT, upto_same p.length fun j hj => ⟨hpj j hj, hqj j hj⟩, h.txt]
    unfold lineAt
    rw [hpl, hql]
theorem rd_good (hr1 : rightT ts = true) (hr2 : rightT us = true) : ∀ (l cur : List UInt8) (p q : List (List Int)) (t : List UInt8) (P Q : List (List Int)) (k : Nat) (e : Int), Good ts us p q t → rdGo ts us l cur p q = (P, Q, k, e) →
    (e = 0 ∧ k = 0 ∧ Good ts us P Q (t ++ cur ++ l)) ∨ (e = 11 ∧ 0 < k ∧ P = [] ∧ Q = [])
  | [], cur, p, q, t, P, Q, k, e, hg, h => by
    rw [rdGo] at h
    by_cases hc : cur = []
    · rw [if_pos hc] at h
      injection h with h1 h
      injection h with h2 h
      injection h with h3 h4
      subst h1 h2 h3 h4 hc
      exact .inl ⟨rfl, rfl, by simpa using hg⟩
    · rw [if_neg hc] at h
      injection h with h1 h
      injection h with h2 h
      injection h with h3 h4
      exact .inr ⟨h4.symm, by omega, h1.symm, h2.symm⟩
  | c :: l, cur, p, q, t, P, Q, k, e, hg, h => by
    rw [rdGo] at h
    by_cases hc : c = 10
    · rw [if_pos hc] at h
      cases hl : lineP ts us p.length cur with
      | none =>
        rw [hl] at h
        injection h with h1 h
        injection h with h2 h
        injection h with h3 h4
        exact .inr ⟨h4.symm, by omega, h1.symm, h2.symm⟩
      | some ab =>
        obtain ⟨a, b⟩ := ab
        rw [hl] at h
        dsimp only at h
        by_cases hq : b ≠ [] ∧ q.length < p.length
        · rw [if_pos hq] at h
          injection h with h1 h
          injection h with h2 h
          injection h with h3 h4
          exact .inr ⟨h4.symm, by omega, h1.symm, h2.symm⟩
        · rw [if_neg hq] at h
          obtain ⟨g1, g2, g3⟩ := back_line hr1 hr2 hl
          have hs := hg.step g2 g3 hq
          rw [line_body, ← g1] at hs
          rcases rd_good hr1 hr2 l [] _ _ _ P Q k e hs h with ⟨e1, e2, e3⟩ | e1
          · refine .inl ⟨e1, e2, ?_⟩
            rw [hc]
            simpa using e3
          · exact .inr e1
    · rw [if_neg hc] at h
      rcases rd_good hr1 hr2 l (cur ++ [c]) p q t P Q k e hg h with ⟨e1, e2, e3⟩ | e1
      · exact .inl ⟨e1, e2, by simpa using e3⟩
      · exact .inr e1
/-- what is read is written so; or why not -/
theorem read_back {s : List UInt8} {P Q : List (List Int)} {k : Nat} {e : Int} (h : readT ts us s = (P, Q, k, e)) : (e = 0 ∧ k = 0 ∧ textW ts us P Q = (s, 0)) ∨ (e = 11 ∧ 0 < k ∧ P = [] ∧ Q = []) ∨ (e = 2 ∧ k = 0 ∧ P = [] ∧ Q = []) := by
  unfold readT at h
  by_cases hr : (rightT ts && rightT us) = false
  · rw [if_pos hr] at h
    injection h with h1 h
    injection h with h2 h
    injection h with h3 h4
    exact .inr (.inr ⟨h4.symm, h3.symm, h1.symm, h2.symm⟩)
  · rw [if_neg hr] at h
    have hrt : (rightT ts && rightT us) = true := by simpa using hr
    have hr1 : rightT ts = true := (Bool.and_eq_true _ _ ▸ hrt).1
    have hr2 : rightT us = true := (Bool.and_eq_true _ _ ▸ hrt).2
    rcases rd_good hr1 hr2 s [] [] [] [] P Q k e ⟨Nat.le_refl _, (fun j hj => absurd hj (by simp)), rfl⟩ h with ⟨e1, e2, e3⟩ | e1
    · refine .inl ⟨e1, e2, ?_⟩
      rw [textW_end hrt (by have := e3.le; omega) (List.all_eq_true.2 fun j hj => e3.ok j (List.mem_range.1 hj)), e3.txt]
      rfl
    · exact .inr (.inl e1)
/-- what is written is read as it was -/
theorem text_read {la lb : List (List Int)} (hr : (rightT ts && rightT us) = true) (hl : lb.length ≤ la.length) (hok : ∀ j, j < la.length → okAt ts us la lb j = true) (ha : ∀ x ∈ la, ∀ v ∈ x, R64 v) (hb : ∀ x ∈ lb, ∀ v ∈ x, R64 v) :
    ∀ (i : Nat) (rest : List UInt8), i ≤ la.length → rdGo ts us (uptoT ts us la lb i ++ rest) [] [] [] = rdGo ts us rest [] (la.take i) (lb.take i)
  | 0, rest, _ => rfl
  | i + 1, rest, hi => by
    have hr2 : rightT us = true := (Bool.and_eq_true _ _ ▸ hr).2
    have hj := hok i (by omega)
    unfold okAt at hj
    rw [Bool.and_eq_true] at hj
    have hla : la.getD i [] = la[i] := by rw [List.getD_eq_getElem?_getD, List.getElem?_eq_getElem (by omega)]; rfl
    rw [uptoT, List.append_assoc, text_read hr hl hok ha hb i (lineAt ts us la lb i ++ rest) (by omega)]
    unfold lineAt
    rw [line_body, List.append_assoc, show ([10] : List UInt8) ++ rest = 10 :: rest from rfl, rdGo_line body_no10, List.length_take, Nat.min_eq_left (by omega)]
    rw [line_back hj.1 (by rw [hla]; exact ha _ (List.getElem_mem _)) (fun x hx => by
      refine ⟨by rw [hx] at hj; exact hj.2, ?_⟩
      have := List.mem_of_getElem? hx
      exact hb x this)]
    dsimp only
    rw [hla]
    by_cases hil : i < lb.length
    · rw [List.getElem?_eq_getElem hil] at hj ⊢
      have hne : lb[i] ≠ [] := by
        intro e
        have h1 := (fits_cons hj.2).2.1
        have h2 := (right_cons hr2).1
        rw [e] at h1
        simp at h1
        omega
      rw [Option.getD_some, if_neg (by rintro ⟨_, h⟩; rw [List.length_take] at h; omega), if_neg hne, List.take_succ_eq_append_getElem (by omega : i < la.length), List.take_succ_eq_append_getElem hil]
    · rw [List.getElem?_eq_none (by omega), Option.getD_none, if_neg (by rintro ⟨h, _⟩; exact h rfl), if_pos rfl, List.take_succ_eq_append_getElem (by omega : i < la.length), List.take_of_length_le (l := lb) (i := i) (by omega), List.take_of_length_le (l := lb) (i := i + 1) (by omega)]
theorem text_back {la lb : List (List Int)} {t : List UInt8} (h : textW ts us la lb = (t, 0)) (ha : ∀ x ∈ la, ∀ v ∈ x, R64 v) (hb : ∀ x ∈ lb, ∀ v ∈ x, R64 v) : readT ts us t = (la, lb, 0, 0) := by
  unfold textW at h
  by_cases hr : (rightT ts && rightT us) = false
  · rw [if_pos hr] at h; cases h
  rw [if_neg hr] at h
  have hrt : (rightT ts && rightT us) = true := by simpa using hr
  by_cases hl : la.length < lb.length
  · rw [if_pos hl] at h; cases h
  rw [if_neg hl] at h
  by_cases hall : (List.range la.length).all (okAt ts us la lb) = true
  · rw [if_pos hall] at h
    injection h with h1 _
    have := text_read hrt (by omega) (fun j hj => List.all_eq_true.1 hall j (List.mem_range.2 hj)) ha hb la.length [] (Nat.le_refl _)
    rw [List.append_nil, h1, rdGo, if_pos rfl, List.take_length, List.take_of_length_le (by omega)] at this
    unfold readT
    rw [if_neg hr, this]
  · rw [if_neg hall] at h; cases h
end
end Go.Proofs.YtmdnmodjdgcmjaaDoor
