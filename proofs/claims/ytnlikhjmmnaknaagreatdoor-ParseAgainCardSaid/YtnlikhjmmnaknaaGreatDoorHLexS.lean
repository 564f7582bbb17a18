/-
  The tokens of a source's text.
-/
import Derived.Test.YtnlikhjmmnaknaaGreatDoorHLexE
import Derived.Test.YtnlikhjmmnaknaaGreatDoorGG
namespace Go.Proofs.YtnlikhjmmnaknaaGreatDoor
open Go.RowKit

/-- all, with something between -/
def sepL (sep : List UInt8) {α : Type} (f : α → List UInt8) : List α → List UInt8
  | [] => []
  | x :: r => f x ++ r.flatMap fun y => sep ++ f y
theorem sepTo_L (sep : List UInt8) {α : Type} (f : α → List UInt8) (xs : List α) : sepTo sep (atL f xs) xs.length = sepL sep f xs := by
  cases xs with
  | nil => rfl
  | cons x r =>
    rw [List.length_cons, sepTo_tail]
    show f x ++ _ = f x ++ _
    congr 1
    rw [List.flatMap_def]
    congr 1
    apply List.ext_getElem?
    intro j
    rw [List.getElem?_map, List.getElem?_map]
    by_cases hj : j < r.length
    · rw [List.getElem?_range hj, List.getElem?_eq_getElem hj, Option.map_some, Option.map_some, atL_lt f (by simpa using hj)]
      simp
    · rw [List.getElem?_eq_none (by simpa using hj), List.getElem?_eq_none (by omega)]; rfl
def sepI {α : Type} (sep : List It) (f : α → List It) : List α → List It
  | [] => []
  | x :: r => f x ++ r.flatMap fun y => sep ++ f y

def litI (c : LitE) : List It := itOf [119, 104, 101, 110] :: ((if c.neg = true then [itOf [110, 111, 116]] else []) ++ [itNm c.name])
def varI (v : VarE) : List It := itNm v.name :: itOf [58] :: itOf (if v.type = 1 then [105, 110, 116] else [98, 111, 111, 108]) :: v.clock.flatMap litI
def varsI (l : List VarE) : List It := sepI [itOf [59]] varI l
def lineI (v : VarE) : List It := varI v ++ [itOf [59]]
def namesI (l : List ByteArray) : List It := sepI [itOf [44]] (fun x => [itNm x]) l
def leftI (l : List ByteArray) : List It := if 1 < l.length then itOf [40] :: (namesI l ++ [itOf [41]]) else namesI l
def eqI (q : EqE) : List It := leftI q.left ++ (itOf [61] :: (q.right.its 0 ++ [itOf [59]]))
def nodeI (n : NodeE) : List It :=
  itOf [110, 111, 100, 101] :: itNm n.name :: itOf [40] :: (varsI n.ins ++ (itOf [41] :: itOf [114, 101, 116, 117, 114, 110, 115] :: itOf [40] :: (varsI n.outs ++ (itOf [41] :: itOf [59] ::
    ((if 0 < n.vars.length then [itOf [118, 97, 114]] else []) ++ (n.vars.flatMap lineI ++ (itOf [108, 101, 116] :: (n.eqs.flatMap eqI ++ [itOf [116, 101, 108]]))))))))
def srcI (s : List NodeE) : List It := s.flatMap nodeI

/-! right sources whose numbers are ints of Go -/
def LitE.fine (c : LitE) : Prop := isName c.name.data.toList = true
def VarE.fine (v : VarE) : Prop := isName v.name.data.toList = true ∧ (v.type = 1 ∨ v.type = 2) ∧ (∀ c ∈ v.clock, c.fine) ∧ v.clock.length ≤ 4
def EqE.fine (q : EqE) : Prop := (∀ x ∈ q.left, isName x.data.toList = true) ∧ 1 ≤ q.left.length ∧ q.left.length ≤ 8 ∧ q.right.fine ∧ q.right.height ≤ 30
def NodeE.fine (n : NodeE) : Prop := isName n.name.data.toList = true ∧ (∀ v ∈ n.ins, v.fine) ∧ (∀ v ∈ n.outs, v.fine) ∧ (∀ v ∈ n.vars, v.fine) ∧ (∀ q ∈ n.eqs, q.fine) ∧ (1 ≤ n.ins.length ∧ n.ins.length ≤ 8) ∧ (1 ≤ n.outs.length ∧ n.outs.length ≤ 8) ∧ n.vars.length ≤ 40 ∧ 1 ≤ n.eqs.length ∧ n.eqs.length ≤ 48

theorem any_end {t : List UInt8} {its : List It} (h : Lexes t its) : LexesAny (t ++ [10]) its := fun w r js hw hl => by
  rw [List.append_assoc] at hl
  obtain ⟨k, hk, hl1⟩ := h w ([10] ++ r) js hw (nopart_cons (by decide)) hl
  exact ⟨k, hk, lex_blank (w := [10]) (fun c hc => .inr (List.mem_singleton.1 hc)) hl1⟩
theorem any_nil : LexesAny [] [] := fun _ _ js hw hl => ⟨js, rfl, lex_blank hw hl⟩
theorem any_flat {α : Type} {f : α → List UInt8} {g : α → List It} : ∀ xs : List α, (∀ x ∈ xs, LexesAny (f x) (g x)) → LexesAny (xs.flatMap f) (xs.flatMap g) := by
  intro xs
  induction xs with
  | nil => intro _; exact any_nil
  | cons x xs ih => intro h; exact any_any (h x (List.mem_cons_self ..)) (ih fun y hy => h y (List.mem_cons_of_mem _ hy))
/-- parts, each of which begins with what is no part of a name -/
theorem lexes_flat {α : Type} {f : α → List UInt8} {g : α → List It} : ∀ xs : List α, (∀ x ∈ xs, Lexes (f x) (g x) ∧ NoPart (f x) ∧ f x ≠ []) → Lexes (xs.flatMap f) (xs.flatMap g) ∧ NoPart (xs.flatMap f) := by
  intro xs
  induction xs with
  | nil => intro _; exact ⟨lexes_nil, fun c v h => by cases h⟩
  | cons x xs ih =>
    intro h
    obtain ⟨h1, h2, h3⟩ := h x (List.mem_cons_self ..)
    obtain ⟨i1, i2⟩ := ih fun y hy => h y (List.mem_cons_of_mem _ hy)
    rw [List.flatMap_cons, List.flatMap_cons]
    refine ⟨?_, fun c v hc => ?_⟩
    · cases hxs : xs.flatMap f with
      | nil =>
        rw [hxs] at i1
        intro w r js hw hr hl
        rw [List.append_nil] at hl
        obtain ⟨k1, rfl, hl1⟩ := h1 w r js hw hr hl
        obtain ⟨k2, rfl, hl2⟩ := i1 [] r k1 nil_blank hr (by simpa using hl1)
        exact ⟨k2, by rw [List.append_assoc], hl2⟩
      | cons c v =>
        rw [hxs] at i1 i2
        exact lexes_two h1 i1 i2 (by simp)
    · cases hf : f x with
      | nil => exact absurd hf h3
      | cons a b => rw [hf] at hc; injection hc with hc _; subst hc; exact h2 a b hf
theorem lexes_sep {α : Type} {f : α → List UInt8} {g : α → List It} {sep : List UInt8} {its : List It} (hs : LexesAny sep its) (hsn : NoPart sep) (hne : sep ≠ []) : ∀ xs : List α, (∀ x ∈ xs, Lexes (f x) (g x)) → Lexes (sepL sep f xs) (sepI its g xs) := by
  intro xs h
  cases xs with
  | nil => exact lexes_nil
  | cons x r =>
    have h1 := h x (List.mem_cons_self ..)
    obtain ⟨h2, h3⟩ := lexes_flat (f := fun y => sep ++ f y) (g := fun y => its ++ g y) r fun y hy => ⟨any_two hs (h y (List.mem_cons_of_mem _ hy)), fun c v hc => by
      cases hsep : sep with
      | nil => exact absurd hsep hne
      | cons a b => rw [hsep] at hc; injection hc with hc _; subst hc; exact hsn a b hsep, fun h0 => hne (List.append_eq_nil_iff.1 h0).1⟩
    show Lexes (f x ++ r.flatMap fun y => sep ++ f y) (g x ++ r.flatMap fun y => its ++ g y)
    cases hr : r.flatMap fun y => sep ++ f y with
    | nil =>
      rw [hr] at h2
      intro w r2 js hw hr2 hl
      rw [List.append_nil] at hl
      obtain ⟨k1, rfl, hl1⟩ := h1 w r2 js hw hr2 hl
      obtain ⟨k2, rfl, hl2⟩ := h2 [] r2 k1 nil_blank hr2 (by simpa using hl1)
      exact ⟨k2, by rw [List.append_assoc], hl2⟩
    | cons c v =>
      rw [hr] at h2 h3
      exact lexes_two h1 h2 h3 (by simp)
theorem lex_lit {c : LitE} (h : c.fine) : Lexes (litTxt c) (litI c) ∧ NoPart (litTxt c) ∧ litTxt c ≠ [] := by
  refine ⟨?_, nopart_cons (by decide), by simp [litTxt]⟩
  have hw : Lexes [119, 104, 101, 110] [itOf [119, 104, 101, 110]] := lexes_word (by decide) (by decide) (by decide)
  have hn : Lexes [110, 111, 116] [itOf [110, 111, 116]] := lexes_word (by decide) (by decide) (by decide)
  unfold litTxt litI
  by_cases hc : c.neg = true
  · rw [if_pos hc, if_pos hc]
    exact lexes_blank (c := 32) (.inl rfl) (lexes_two hw (lexes_blank (c := 32) (.inl rfl) (lexes_two hn (lexes_blank (c := 32) (.inl rfl) (lexes_name h)) (nopart_cons (by decide)) (by simp))) (nopart_cons (by decide)) (by simp))
  · rw [if_neg hc, if_neg hc]
    exact lexes_blank (c := 32) (.inl rfl) (lexes_two hw (lexes_blank (c := 32) (.inl rfl) (lexes_name h)) (nopart_cons (by decide)) (by simp))
theorem lex_var {v : VarE} (h : v.fine) : Lexes (varTxt v) (varI v) := by
  obtain ⟨hn, ht, hc, _⟩ := h
  unfold varTxt varI
  rw [show sepTo [] (atL litTxt v.clock) v.clock.length = v.clock.flatMap litTxt by
    rw [sepTo_L]
    cases v.clock with
    | nil => rfl
    | cons x r => rfl]
  obtain ⟨h1, h2⟩ := lexes_flat (f := litTxt) (g := litI) v.clock fun c hcc => lex_lit (hc c hcc)
  have hty : Lexes (if v.type = 1 then [105, 110, 116] else [98, 111, 111, 108]) [itOf (if v.type = 1 then [105, 110, 116] else [98, 111, 111, 108])] := by
    by_cases h1 : v.type = 1
    · rw [if_pos h1]; exact lexes_word (by decide) (by decide) (by decide)
    · rw [if_neg h1]; exact lexes_word (by decide) (by decide) (by decide)
  have htc : Lexes ((if v.type = 1 then [105, 110, 116] else [98, 111, 111, 108]) ++ v.clock.flatMap litTxt) (itOf (if v.type = 1 then [105, 110, 116] else [98, 111, 111, 108]) :: v.clock.flatMap litI) := by
    cases hr : v.clock.flatMap litTxt with
    | nil =>
      rw [hr] at h1
      intro w r2 js hw hr2 hl
      rw [List.append_nil] at hl
      obtain ⟨k1, rfl, hl1⟩ := hty w r2 js hw hr2 hl
      obtain ⟨k2, rfl, hl2⟩ := h1 [] r2 k1 nil_blank hr2 (by simpa using hl1)
      exact ⟨k2, rfl, hl2⟩
    | cons c u =>
      rw [hr] at h1 h2
      exact lexes_two hty h1 h2 (by simp)
  exact lexes_two (lexes_name hn) (any_two (t := [58]) (any_sign (by decide) (by decide)) (lexes_blank (c := 32) (.inl rfl) htc)) (nopart_cons (by decide)) (by simp)
theorem any_semi : LexesAny [59] [itOf [59]] := any_sign (by decide) (by decide)
theorem any_open : LexesAny [40] [itOf [40]] := any_sign (by decide) (by decide)
theorem any_shut : LexesAny [41] [itOf [41]] := any_sign (by decide) (by decide)
theorem any_sp {t : List UInt8} {its : List It} (h : LexesAny t its) : LexesAny (t ++ [32]) its := fun w r js hw hl => by
  rw [List.append_assoc] at hl
  obtain ⟨k, hk, hl1⟩ := h w ([32] ++ r) js hw hl
  exact ⟨k, hk, lex_blank (w := [32]) (fun c hc => .inl (List.mem_singleton.1 hc)) hl1⟩
theorem lex_vars {l : List VarE} (h : ∀ v ∈ l, v.fine) : Lexes (varsTxt l) (varsI l) := by
  unfold varsTxt varsI
  rw [sepTo_L]
  exact lexes_sep (any_sp any_semi) (nopart_cons (by decide)) (by simp) l fun v hv => lex_var (h v hv)
theorem lex_names {l : List ByteArray} (h : ∀ x ∈ l, isName x.data.toList = true) : Lexes (namesTxt l) (namesI l) := by
  unfold namesTxt namesI
  rw [sepTo_L]
  exact lexes_sep (any_sp (any_sign (a := 44) (by decide) (by decide))) (nopart_cons (by decide)) (by simp) l fun x hx => lexes_name (h x hx)
theorem lex_left {l : List ByteArray} (h : ∀ x ∈ l, isName x.data.toList = true) : Lexes (leftTxt l) (leftI l) := by
  unfold leftTxt leftI
  by_cases hl : 1 < l.length
  · rw [if_pos hl, if_pos hl]
    exact (any_any (t := [40]) any_open (lexes_any (lex_names h) any_shut (nopart_cons (by decide)) (by simp))).le
  · rw [if_neg hl, if_neg hl]
    exact lex_names h
theorem lex_line {v : VarE} (h : v.fine) : LexesAny (lineTxt v) (lineI v) := by
  have h1 := any_any (lexes_any (lex_var h) any_semi (nopart_cons (by decide)) (by simp)) (any_end lexes_nil)
  have h2 := any_blank (c := 32) (.inl rfl) (any_blank (c := 32) (.inl rfl) h1)
  unfold lineTxt lineI
  simpa using h2
theorem lex_eq {q : EqE} (h : q.fine) : LexesAny (eqTxt q) (eqI q) := by
  have h1 := any_any (lexes_any (lex_txt h.2.2.2.1 0).1 any_semi (nopart_cons (by decide)) (by simp)) (any_end lexes_nil)
  have h2 := any_any (any_sign (a := 61) (by decide) (by decide)) (any_blank (c := 32) (.inl rfl) h1)
  have h3 := lexes_any (lex_left h.1) (any_blank (c := 32) (.inl rfl) h2) (nopart_cons (by decide)) (by simp)
  have h4 := any_blank (c := 32) (.inl rfl) (any_blank (c := 32) (.inl rfl) h3)
  unfold eqTxt eqI
  simpa using h4
theorem lex_node {n : NodeE} (h : n.fine) : LexesAny (nodeTxt n) (nodeI n) := by
  obtain ⟨hn, hi, ho, hv, hq, _⟩ := h
  have w1 : Lexes [110, 111, 100, 101] [itOf [110, 111, 100, 101]] := lexes_word (by decide) (by decide) (by decide)
  have w2 : Lexes [114, 101, 116, 117, 114, 110, 115] [itOf [114, 101, 116, 117, 114, 110, 115]] := lexes_word (by decide) (by decide) (by decide)
  have w3 : Lexes [118, 97, 114] [itOf [118, 97, 114]] := lexes_word (by decide) (by decide) (by decide)
  have w4 : Lexes [108, 101, 116] [itOf [108, 101, 116]] := lexes_word (by decide) (by decide) (by decide)
  have w5 : Lexes [116, 101, 108] [itOf [116, 101, 108]] := lexes_word (by decide) (by decide) (by decide)
  have flatV : sepTo [] (atL lineTxt n.vars) n.vars.length = n.vars.flatMap lineTxt := by
    rw [sepTo_L]
    cases n.vars with
    | nil => rfl
    | cons x r => rfl
  have flatE : sepTo [] (atL eqTxt n.eqs) n.eqs.length = n.eqs.flatMap eqTxt := by
    rw [sepTo_L]
    cases n.eqs with
    | nil => rfl
    | cons x r => rfl
  have a1 := any_end w5
  have a2 := any_any (any_flat n.eqs fun q hq2 => lex_eq (hq q hq2)) a1
  have a3 := any_any (any_end w4) a2
  have a4 := any_any (any_flat n.vars fun v hv2 => lex_line (hv v hv2)) a3
  have a5 : LexesAny ((if 0 < n.vars.length then [118, 97, 114, 10] else []) ++ (n.vars.flatMap lineTxt ++ ([108, 101, 116, 10] ++ (n.eqs.flatMap eqTxt ++ [116, 101, 108, 10])))) ((if 0 < n.vars.length then [itOf [118, 97, 114]] else []) ++ (n.vars.flatMap lineI ++ (itOf [108, 101, 116] :: (n.eqs.flatMap eqI ++ [itOf [116, 101, 108]])))) := by
    by_cases hv0 : 0 < n.vars.length
    · rw [if_pos hv0, if_pos hv0]; exact any_any (any_end w3) a4
    · rw [if_neg hv0, if_neg hv0]; exact a4
  have a6 := any_any any_shut (any_any any_semi (any_any (any_end lexes_nil) a5))
  have a7 := lexes_any (lex_vars ho) a6 (nopart_cons (by decide)) (by simp)
  have a8 := any_any any_open a7
  have a9 := lexes_any w2 (any_blank (c := 32) (.inl rfl) a8) (nopart_cons (by decide)) (by simp)
  have b1 := any_any any_shut (any_blank (c := 32) (.inl rfl) a9)
  have b2 := lexes_any (lex_vars hi) b1 (nopart_cons (by decide)) (by simp)
  have b3 := any_any any_open b2
  have b4 := lexes_any (lexes_name hn) b3 (nopart_cons (by decide)) (by simp)
  have b5 := lexes_any w1 (any_blank (c := 32) (.inl rfl) b4) (nopart_cons (by decide)) (by simp)
  unfold nodeTxt nodeHead nodeVars nodeI
  rw [flatV, flatE]
  simpa using b5
/-- THE TEXT OF A SOURCE IS SCANNED AS ITS TOKENS -/
theorem lex_src {s : List NodeE} (h : ∀ n ∈ s, n.fine) : LexesAny (srcTxt s) (srcI s) := by
  unfold srcTxt srcI
  rw [sepTo_L]
  cases s with
  | nil => exact any_nil
  | cons x r =>
    have h1 := any_flat (f := fun y => [10] ++ nodeTxt y) (g := nodeI) r fun y hy => any_blank (c := 10) (.inr rfl) (lex_node (h y (List.mem_cons_of_mem _ hy)))
    exact any_any (lex_node (h x (List.mem_cons_self ..))) h1
end Go.Proofs.YtnlikhjmmnaknaaGreatDoor
