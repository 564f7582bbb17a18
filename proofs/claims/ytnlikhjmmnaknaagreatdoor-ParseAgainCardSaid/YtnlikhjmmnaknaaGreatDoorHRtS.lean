/-
  What is read as a source is right.
-/
import Derived.Test.YtnlikhjmmnaknaaGreatDoorHRtT
import Derived.Test.YtnlikhjmmnaknaaGreatDoorGS
import Derived.Test.YtnlikhjmmnaknaaGreatDoorGF
namespace Go.Proofs.YtnlikhjmmnaknaaGreatDoor
open Go.RowKit

section
variable {s : ByteArray} {l : List Tk}
/-- where a name was asked for and the state is good, the token's text is a name -/
theorem name_good (hG : GoodT l) {m : Md} {b : Bool} {j : Nat} (h : m.name s l b = .ok j) : isName (m.text l).data.toList = true := by
  cases m with
  | ok i =>
    unfold Md.name at h
    dsimp only at h
    split at h
    · rename_i hk; exact (hG i).1 hk
    · cases h
  | bad a b c => cases h
theorem lits_good (hG : GoodT l) : ∀ (k : Nat) (xs : List LitE) {m : Md} {j : Nat}, (∀ c ∈ xs, litB c = true) → (litsP s l k xs m).2 = .ok j → ∀ c ∈ (litsP s l k xs m).1, litB c = true := by
  intro k
  induction k with
  | zero =>
    intro xs m j hx h
    unfold litsP
    split
    · exact hx
    · exact hx
  | succ k ih =>
    intro xs m j hx h
    unfold litsP at h ⊢
    split
    · rename_i hw
      rw [if_pos hw] at h
      refine ih _ (fun c hc => ?_) h
      rcases List.mem_append.1 hc with hc | hc
      · exact hx c hc
      · obtain rfl := List.mem_singleton.1 hc
        obtain ⟨i1, h1⟩ := lits_ok _ _ h
        exact name_good hG h1
    · exact hx
theorem names_good (hG : GoodT l) (most : Nat) : ∀ (k : Nat) (xs : List VarE) {m : Md} {j : Nat}, xs.length ≤ most → k = most + 1 - xs.length → (∀ v ∈ xs, isName v.name.data.toList = true) → (namesP s l most k xs m).2 = .ok j → ∀ v ∈ (namesP s l most k xs m).1, isName v.name.data.toList = true := by
  intro k
  induction k with
  | zero => intro xs m j h1 h2; omega
  | succ k ih =>
    intro xs m j h1 h2 hx h
    have hstep : ∀ {i : Nat}, m.name s l (decide (most ≤ xs.length)) = .ok i → ∀ v ∈ xs ++ [⟨m.text l, 0, [], m.ln s l, m.cl s l⟩], isName v.name.data.toList = true := fun {i} hn v hv => by
      rcases List.mem_append.1 hv with hv | hv
      · exact hx v hv
      · obtain rfl := List.mem_singleton.1 hv
        exact name_good hG hn
    unfold namesP at h ⊢
    by_cases hc : (m.name s l (decide (most ≤ xs.length))).is l wComma = true
    · rw [if_pos hc] at h ⊢
      obtain ⟨i1, hi1, _⟩ := is_yes hc
      obtain ⟨i0, rfl, _⟩ := name_ok hi1
      have hd := name_full hi1
      simp at hd
      exact ih _ (by simp; omega) (by simp; omega) (hstep hi1) h
    · rw [if_neg hc] at h ⊢
      exact hstep h
theorem setVars_good {n : Nat} {ys : List VarE} {k : Int} {c : List LitE} (hn : ∀ v ∈ ys, isName v.name.data.toList = true) (ht : ∀ v ∈ ys.take n, varB v = true) (hk : k = 1 ∨ k = 2) (hc : ∀ x ∈ c, litB x = true) (h4 : c.length ≤ 4) : ∀ v ∈ setVars n ys k c, varB v = true := by
  intro v hv
  unfold setVars at hv
  rcases List.mem_append.1 hv with hv | hv
  · exact ht v hv
  · obtain ⟨u, hu, rfl⟩ := List.mem_map.1 hv
    have := hn u (List.mem_of_mem_drop hu)
    unfold varB
    simp only [Bool.and_eq_true, Bool.or_eq_true, beq_iff_eq, decide_eq_true_eq, List.all_eq_true]
    exact ⟨⟨⟨hc, this⟩, hk⟩, h4⟩
theorem names_take (most : Nat) : ∀ (k : Nat) (xs : List VarE) (m : Md), ∃ ys, (namesP s l most k xs m).1 = xs ++ ys := by
  intro k
  induction k with
  | zero => intro xs m; exact ⟨[], by simp [namesP]⟩
  | succ k ih =>
    intro xs m
    unfold namesP
    split
    · obtain ⟨ys, h⟩ := ih (xs ++ [⟨m.text l, 0, [], m.ln s l, m.cl s l⟩]) ((m.name s l (decide (most ≤ xs.length))).take l wComma)
      exact ⟨_, by rw [h, List.append_assoc]⟩
    · exact ⟨_, rfl⟩
theorem group_good (hG : GoodT l) {most : Nat} {xs : List VarE} {m : Md} {j : Nat} (hx : xs.length ≤ most) (hb : ∀ v ∈ xs, varB v = true) (h : (groupP s l most xs m).2 = .ok j) : ∀ v ∈ (groupP s l most xs m).1, varB v = true := by
  unfold groupP at h ⊢
  dsimp only at h ⊢
  obtain ⟨i1, h1⟩ := lits_ok _ _ h
  obtain ⟨i2, h2⟩ := kind_ok h1
  obtain ⟨i3, h3⟩ := want_ok h2
  have hnm : ∀ v ∈ xs, isName v.name.data.toList = true := fun v hv => by
    have := hb v hv
    unfold varB at this
    simp only [Bool.and_eq_true] at this
    exact this.1.1.2
  obtain ⟨ys, hys⟩ := names_take (s := s) (l := l) most (most + 1 - xs.length) xs m
  refine setVars_good (names_good hG most _ xs hx rfl hnm h3) ?_ kind_in (lits_good hG _ _ (fun c hc => by cases hc) h) (lits_len 4 [] _)
  rw [hys, List.take_left']
  · exact hb
  · rfl
theorem portsGo_good (hG : GoodT l) : ∀ (k : Nat) (xs : List VarE) {m : Md} {j : Nat}, xs.length ≤ 8 → 9 ≤ xs.length + k → (∀ v ∈ xs, varB v = true) → (portsGo s l k xs m).2 = .ok j → (∀ v ∈ (portsGo s l k xs m).1, varB v = true) ∧ xs.length < (portsGo s l k xs m).1.length ∧ (portsGo s l k xs m).1.length ≤ 8 := by
  intro k
  induction k with
  | zero => intro xs m j h1 h2; omega
  | succ k ih =>
    intro xs m j h8 hk hx h
    unfold portsGo at h ⊢
    by_cases hc : (groupP s l 8 xs m).2.is l wSemi = true
    · rw [if_pos hc] at h ⊢
      obtain ⟨i, hi, _⟩ := is_yes hc
      obtain ⟨_, h5, h6⟩ := group_ok h8 hi
      obtain ⟨h7, h9, h10⟩ := ih _ h6 (by omega) (group_good hG h8 hx hi) h
      exact ⟨h7, by omega, h10⟩
    · rw [if_neg hc] at h ⊢
      exact ⟨group_good hG h8 hx h, (group_ok h8 h).2⟩
theorem ports_good (hG : GoodT l) {m : Md} {j : Nat} (h : (portsP s l m).2 = .ok j) : manyB (portsP s l m).1 1 8 = true := by
  unfold portsP at h ⊢
  obtain ⟨i, hi⟩ := want_ok h
  obtain ⟨h1, h2, h3⟩ := portsGo_good hG 9 [] (by simp) (by simp) (fun v hv => by cases hv) hi
  unfold manyB
  simp only [Bool.and_eq_true, decide_eq_true_eq, List.all_eq_true]
  exact ⟨⟨h1, by simp at h2; omega⟩, h3⟩
theorem localsGo_good (hG : GoodT l) : ∀ (k : Nat) (xs : List VarE) {m : Md} {j : Nat}, xs.length ≤ 40 → 41 ≤ xs.length + k → (∀ v ∈ xs, varB v = true) → (localsGo s l k xs m).2 = .ok j → (∀ v ∈ (localsGo s l k xs m).1, varB v = true) ∧ (localsGo s l k xs m).1.length ≤ 40 := by
  intro k
  induction k with
  | zero => intro xs m j h1 h2; omega
  | succ k ih =>
    intro xs m j h8 hk hx h
    unfold localsGo at h ⊢
    by_cases hc : ((groupP s l 40 xs m).2.want s l wSemi).isBad = true ∨ ((groupP s l 40 xs m).2.want s l wSemi).is l wLet = true
    · rw [if_pos hc] at h ⊢
      obtain ⟨i, hi⟩ := want_ok h
      exact ⟨group_good hG h8 hx hi, (group_ok h8 hi).2.2⟩
    · rw [if_neg hc] at h ⊢
      obtain ⟨i, hi⟩ := not_bad (m := (groupP s l 40 xs m).2.want s l wSemi) (Bool.eq_false_iff.2 fun hb => hc (.inl hb))
      obtain ⟨i2, hi2⟩ := want_ok hi
      obtain ⟨_, h5, h6⟩ := group_ok h8 hi2
      exact ih _ h6 (by omega) (group_good hG h8 hx hi2) h
theorem locals_good (hG : GoodT l) {m : Md} {j : Nat} (h : (localsP s l m).2 = .ok j) : manyB (localsP s l m).1 0 40 = true := by
  unfold localsP at h ⊢
  unfold manyB
  simp only [Bool.and_eq_true, decide_eq_true_eq, List.all_eq_true]
  by_cases hc : m.is l wVar = true
  · rw [if_pos hc] at h ⊢
    obtain ⟨h1, h2⟩ := localsGo_good hG 41 [] (by simp) (by simp) (fun v hv => by cases hv) h
    exact ⟨⟨h1, by omega⟩, h2⟩
  · rw [if_neg hc]
    exact ⟨⟨(fun v hv => by cases hv), by simp⟩, by simp⟩
theorem strs_good (hG : GoodT l) : ∀ (k : Nat) (xs : List ByteArray) {m : Md} {j : Nat}, xs.length ≤ 8 → k = 9 - xs.length → (∀ x ∈ xs, strB x = true) → (strsP s l k xs m).2 = .ok j → (∀ x ∈ (strsP s l k xs m).1, strB x = true) ∧ xs.length < (strsP s l k xs m).1.length ∧ (strsP s l k xs m).1.length ≤ 8 := by
  intro k
  induction k with
  | zero => intro xs m j h1 h2; omega
  | succ k ih =>
    intro xs m j h1 h2 hx h
    have hstep : ∀ {i : Nat}, m.name s l (decide (8 ≤ xs.length)) = .ok i → (∀ x ∈ xs ++ [m.text l], strB x = true) ∧ xs.length < 8 := fun {i} hn => by
      refine ⟨fun v hv => ?_, ?_⟩
      · rcases List.mem_append.1 hv with hv | hv
        · exact hx v hv
        · obtain rfl := List.mem_singleton.1 hv
          exact name_good hG hn
      · obtain ⟨i0, rfl, _⟩ := name_ok hn
        have := name_full hn
        simpa using this
    unfold strsP at h ⊢
    by_cases hc : (m.name s l (decide (8 ≤ xs.length))).is l wComma = true
    · rw [if_pos hc] at h ⊢
      obtain ⟨i1, hi1, _⟩ := is_yes hc
      obtain ⟨h3, h4⟩ := hstep hi1
      obtain ⟨h5, h6, h7⟩ := ih _ (by simp; omega) (by simp; omega) h3 h
      simp only [List.length_append, List.length_cons, List.length_nil] at h6
      exact ⟨h5, by omega, h7⟩
    · rw [if_neg hc] at h ⊢
      obtain ⟨h3, h4⟩ := hstep h
      exact ⟨h3, by simp, by simp; omega⟩
theorem left_good (hG : GoodT l) {n : Nat} {m : Md} {j : Nat} (h : (leftP s l n m).2 = .ok j) : (∀ x ∈ (leftP s l n m).1, strB x = true) ∧ 1 ≤ (leftP s l n m).1.length ∧ (leftP s l n m).1.length ≤ 8 := by
  unfold leftP at h ⊢
  by_cases hc : m.is l wOpen = true
  · rw [if_pos hc] at h ⊢
    dsimp only at h ⊢
    obtain ⟨i, hi⟩ := want_ok h
    obtain ⟨h1, h2, h3⟩ := strs_good hG 9 [] (by simp) (by simp) (fun v hv => by cases hv) hi
    exact ⟨h1, by simp at h2; omega, h3⟩
  · rw [if_neg hc] at h ⊢
    refine ⟨fun x hx => ?_, by simp, by simp⟩
    obtain rfl := List.mem_singleton.1 hx
    exact name_good hG h
theorem ex_good (hG : GoodT l) {m : Md} {j : Nat} (h : (exP s l m).2 = .ok j) : (exP s l m).1.right = true := by
  obtain ⟨i, rfl⟩ := ex_ok h
  unfold exP Md.seq at h ⊢
  dsimp only at h ⊢
  have hr := rt_expr (s := s) hG 64 0 i
  cases hx : exprN s l 64 0 i with
  | ok e i1 => exact hr e i1 hx
  | bad a b c => rw [hx] at h; cases h
theorem eq_good (hG : GoodT l) {n : Nat} {m : Md} {j : Nat} (h : (eqP s l n m).2 = .ok j) : eqB (eqP s l n m).1 = true := by
  unfold eqP at h ⊢
  dsimp only at h ⊢
  obtain ⟨i1, h1⟩ := want_ok h
  obtain ⟨i2, h2⟩ := ex_ok h1
  obtain ⟨i3, h3⟩ := want_ok h2
  obtain ⟨l1, l2, l3⟩ := left_good hG h3
  unfold eqB
  simp only [Bool.and_eq_true, decide_eq_true_eq, List.all_eq_true]
  exact ⟨⟨⟨l1, l2⟩, l3⟩, ex_good hG h1⟩
theorem eqs_good (hG : GoodT l) : ∀ (k : Nat) (xs : List EqE) {m : Md} {j : Nat}, xs.length ≤ 48 → k = 49 - xs.length → (∀ q ∈ xs, eqB q = true) → (eqsGo s l k xs m).2 = .ok j → (∀ q ∈ (eqsGo s l k xs m).1, eqB q = true) ∧ xs.length < (eqsGo s l k xs m).1.length ∧ (eqsGo s l k xs m).1.length ≤ 48 := by
  intro k
  induction k with
  | zero => intro xs m j h1 h2; omega
  | succ k ih =>
    intro xs m j h1 h2 hx h
    have hstep : ∀ {i : Nat}, (eqP s l xs.length m).2 = .ok i → (∀ q ∈ xs ++ [(eqP s l xs.length m).1], eqB q = true) ∧ xs.length < 48 := fun {i} hn => by
      refine ⟨fun v hv => ?_, (eq_ok hn).2 h1⟩
      rcases List.mem_append.1 hv with hv | hv
      · exact hx v hv
      · obtain rfl := List.mem_singleton.1 hv
        exact eq_good hG hn
    unfold eqsGo at h ⊢
    by_cases hc : (eqP s l xs.length m).2.isBad = true ∨ (eqP s l xs.length m).2.is l wTel = true
    · rw [if_pos hc] at h ⊢
      obtain ⟨i, hi⟩ := take_ok h
      obtain ⟨h3, h4⟩ := hstep hi
      exact ⟨h3, by simp, by simp; omega⟩
    · rw [if_neg hc] at h ⊢
      obtain ⟨i, hi⟩ := not_bad (m := (eqP s l xs.length m).2) (Bool.eq_false_iff.2 fun hb => hc (.inl hb))
      obtain ⟨h3, h4⟩ := hstep hi
      obtain ⟨h5, h6, h7⟩ := ih _ (by simp; omega) (by simp; omega) h3 h
      simp only [List.length_append, List.length_cons, List.length_nil] at h6
      exact ⟨h5, by omega, h7⟩
theorem node_good (hG : GoodT l) {m : Md} {j : Nat} (h : (nodeP s l m).2 = .ok j) : nodeB (nodeP s l m).1 = true := by
  unfold nodeP at h ⊢
  dsimp only at h ⊢
  obtain ⟨h1, h2, h3⟩ := eqs_good hG 49 [] (by simp) (by simp) (fun v hv => by cases hv) h
  obtain ⟨i1, g1⟩ := eqs_go 49 [] (by simp) (by simp) h
  obtain ⟨i2, g2⟩ := want_ok g1
  obtain ⟨i3, g3⟩ := locals_ok g2
  obtain ⟨i4, g4⟩ := want_ok g3
  obtain ⟨i5, g5⟩ := ports_ok g4
  obtain ⟨i6, g6⟩ := want_ok g5
  obtain ⟨i7, g7⟩ := ports_ok g6
  unfold nodeB
  simp only [Bool.and_eq_true, decide_eq_true_eq, List.all_eq_true]
  exact ⟨⟨⟨⟨⟨⟨h1, name_good hG g7⟩, by simp at h2; omega⟩, h3⟩, ports_good hG g6⟩, ports_good hG g4⟩, locals_good hG g2⟩
theorem src_good (hG : GoodT l) : ∀ (k : Nat) (xs : List NodeE) {m : Md} {j : Nat}, xs.length ≤ 16 → k = 17 - xs.length → (∀ n ∈ xs, nodeB n = true) → (srcGo s l k xs m).2 = .ok j → (∀ n ∈ (srcGo s l k xs m).1, nodeB n = true) ∧ xs.length < (srcGo s l k xs m).1.length ∧ (srcGo s l k xs m).1.length ≤ 16 := by
  intro k
  induction k with
  | zero => intro xs m j h1 h2; omega
  | succ k ih =>
    intro xs m j h1 h2 hx h
    unfold srcGo at h ⊢
    dsimp only at h ⊢
    generalize hm' : (if xs.length = 16 ∧ m.is l wNode = true then m.err s l 3 else m) = m' at *
    have hstep : ∀ {i : Nat}, (nodeP s l m').2 = .ok i → (∀ n ∈ xs ++ [(nodeP s l m').1], nodeB n = true) ∧ xs.length < 16 := fun {i} hn => by
      refine ⟨fun v hv => ?_, ?_⟩
      · rcases List.mem_append.1 hv with hv | hv
        · exact hx v hv
        · obtain rfl := List.mem_singleton.1 hv
          exact node_good hG hn
      · obtain ⟨i1, h3, h4⟩ := node_ok hn
        by_cases hc : xs.length = 16 ∧ m.is l wNode = true
        · rw [if_pos hc] at hm'
          subst hm'
          exact absurd h3 (fun h => err_ok h)
        · rw [if_neg hc] at hm'
          subst hm'
          subst h3
          have : ¬ xs.length = 16 := fun h16 => hc ⟨h16, h4⟩
          omega
    by_cases hc : (nodeP s l m').2.isBad = true ∨ (nodeP s l m').2.last l = true
    · rw [if_pos hc] at h ⊢
      obtain ⟨h3, h4⟩ := hstep h
      exact ⟨h3, by simp, by simp; omega⟩
    · rw [if_neg hc] at h ⊢
      obtain ⟨i, hi⟩ := not_bad (m := (nodeP s l m').2) (Bool.eq_false_iff.2 fun hb => hc (.inl hb))
      obtain ⟨h3, h4⟩ := hstep hi
      obtain ⟨h5, h6, h7⟩ := ih _ (by simp; omega) (by simp; omega) h3 h
      simp only [List.length_append, List.length_cons, List.length_nil] at h6
      exact ⟨h5, by omega, h7⟩
end
/-- THE LAW: what is read as a source is right -/
theorem source_right {s : ByteArray} {xs : List NodeE} {j : Nat} (h : sourceOf s = (xs, .ok j)) : srcB xs = true := by
  unfold sourceOf at h
  cases hsc : scanOf s with
  | bad e p => rw [hsc] at h; injection h with _ h; cases h
  | toks l =>
    rw [hsc] at h
    dsimp only at h
    obtain ⟨h1, h2, h3⟩ := src_good (s := s) (good_scan hsc) 17 [] (m := .ok 0) (j := j) (by simp) (by simp) (fun v hv => by cases hv) (by rw [h])
    rw [h] at h1 h2 h3
    unfold srcB
    simp only [Bool.and_eq_true, decide_eq_true_eq, List.all_eq_true]
    exact ⟨⟨h1, by simp at h2; omega⟩, h3⟩
end Go.Proofs.YtnlikhjmmnaknaaGreatDoor
