/-
  What is scanned: names are names, numbers are not below 0; so what is read as an expression is right.
-/
import Derived.Test.YtnlikhjmmnaknaaGreatDoorHRtE
import Derived.Test.YtnlikhjmmnaknaaGreatDoorHLex
import Derived.Test.YtnlikhjmmnaknaaGreatDoorHParO
namespace Go.Proofs.YtnlikhjmmnaknaaGreatDoor
open Go.RowKit

theorem rn_take {p : Int → Bool} : ∀ (u : List UInt8), ∀ c ∈ u.take (rn p u), p (c.toNat : Int) = true := by
  intro u
  induction u with
  | nil => intro c h; simp at h
  | cons a u ih =>
    intro c h
    by_cases ha : p (a.toNat : Int) = true
    · have hr : rn p (a :: u) = rn p u + 1 := by rw [rn, if_pos ha]; omega
      rw [hr, List.take_succ_cons] at h
      rcases List.mem_cons.1 h with rfl | h
      · exact ha
      · exact ih c h
    · have hr : rn p (a :: u) = 0 := by rw [rn, if_neg ha]
      rw [hr] at h
      simp at h
theorem named_from : ∀ (t : List UInt8) (i : Nat), (∀ c ∈ t, partB (c.toNat : Int) = true) → namedFrom (i + 1) t = true := by
  intro t
  induction t with
  | nil => intro i _; rfl
  | cons a t ih =>
    intro i h
    have ha := h a (List.mem_cons_self ..)
    rw [namedFrom, ih (i + 1) fun c hc => h c (List.mem_cons_of_mem _ hc)]
    unfold partB at ha
    unfold partAt
    simpa using ha
theorem good_tk {s : ByteArray} {j : Nat} (hj : j < s.size) (hok : tokOk s j = true) : ((tkAt s j).kind = 1 → isName (tkAt s j).text.data.toList = true) ∧ ((tkAt s j).kind = 2 → 0 ≤ (tkAt s j).num) := by
  obtain ⟨c, hd, hc⟩ := drop_bt s j hj
  constructor
  · intro hk
    have hk : tokKind s j = 1 := hk
    unfold tokKind at hk
    by_cases hl : isLetter (bt s j) = true
    · rw [if_pos hl] at hk
      have hw : ¬ isWord (textOf s j (tokLen s j)).data.toList = true := fun h => by rw [if_pos h] at hk; cases hk
      unfold tokOk at hok
      rw [if_pos hl] at hok
      have h20 : tokLen s j ≤ 20 := of_decide_eq_true hok
      have hlen : tokLen s j = rn partB (s.data.toList.drop j) := by unfold tokLen; rw [if_pos hl]
      have ht : (textOf s j (tokLen s j)).data.toList = (s.data.toList.drop j).take (rn partB (s.data.toList.drop j)) := by rw [text_L, hlen]
      have hall := rn_take (p := partB) (s.data.toList.drop j)
      show isName (textOf s j (tokLen s j)).data.toList = true
      unfold isName
      rw [Bool.and_eq_true]
      refine ⟨?_, by simpa using hw⟩
      rw [ht]
      rw [hlen] at h20
      rw [hd] at hall h20 ⊢
      have hp : partB (c.toNat : Int) = true := by unfold partB; rw [hc, hl]; rfl
      have hr : rn partB (c :: s.data.toList.drop (j + 1)) = rn partB (s.data.toList.drop (j + 1)) + 1 := by rw [rn, if_pos hp]; omega
      rw [hr] at hall h20 ⊢
      rw [List.take_succ_cons] at hall ⊢
      unfold isNamed
      rw [namedFrom, named_from _ 0 fun x hx => hall x (List.mem_cons_of_mem _ hx)]
      have hle : (List.take (rn partB (s.data.toList.drop (j + 1))) (s.data.toList.drop (j + 1))).length ≤ 19 := by rw [List.length_take]; omega
      unfold partAt
      rw [hc, hl]
      simp only [List.length_cons]
      simp
      omega
    · rw [if_neg hl] at hk
      split at hk <;> cases hk
  · intro hk
    have hk : tokKind s j = 2 := hk
    show 0 ≤ tokNum s j
    unfold tokNum
    split
    · omega
    · rename_i hnl
      split
      · rename_i hdg
        cases hn : numOf (textOf s j (tokLen s j)).data.toList with
        | none => simp
        | some n =>
          have : 0 ≤ n ∧ n ≤ 9223372036854775807 := by
            unfold numOf at hn
            split at hn
            · cases hn
            · have h6 := tok_le hj
              have h5 := size_extract' s j (j + tokLen s j) h6
              refine numGo_in (textOf s j (tokLen s j)) (fun q hq => ?_) _ 0 0 n (Nat.zero_add _) (by omega) (by omega) hn
              unfold textOf at hq ⊢
              rw [bt_extract _ _ _ _ (by omega)]
              have h7 : tokLen s j = rn isDigit (s.data.toList.drop j) := by unfold tokLen; rw [if_neg hnl, if_pos hdg]
              have := rn_all isDigit s j q (by omega)
              simpa [isDigit] using this
          simp only [Option.getD_some]
          omega
      · omega
theorem good_toks {s : ByteArray} {i : Nat} {l : List Tk} (h : Toks s i l) : ∀ t ∈ l, (t.kind = 1 → isName t.text.data.toList = true) ∧ (t.kind = 2 → 0 ≤ t.num) := by
  induction h with
  | last h =>
    intro t ht
    obtain rfl := List.mem_singleton.1 ht
    exact ⟨fun h => by simp [tkEnd] at h, fun h => by simp [tkEnd] at h⟩
  | cons h1 h2 h3 ih =>
    intro t ht
    rcases List.mem_cons.1 ht with rfl | ht
    · exact good_tk h1 h2
    · exact ih t ht
theorem good_scan {s : ByteArray} {l : List Tk} (h : scanOf s = .toks l) : GoodT l := fun i => by
  by_cases hi : i < l.length
  · unfold tkN
    rw [List.getElem?_eq_getElem hi]
    exact good_toks (scan_toks h).1 _ (List.getElem_mem hi)
  · unfold tkN
    rw [List.getElem?_eq_none (by omega)]
    exact ⟨fun h => by simp at h, fun h => by simp at h⟩
/-- THE LAW: what is read as an expression is right -/
theorem parse_right {s : ByteArray} {e : Ex} {i : Nat} (h : parseOf s = .ok e i) : e.right = true := by
  unfold parseOf at h
  cases hsc : scanOf s with
  | bad a b => rw [hsc] at h; cases h
  | toks l =>
    rw [hsc] at h
    exact rt_then (rt_expr (s := s) (good_scan hsc) 64 0 0) (fun _ _ h1 => by
      split
      · exact rt_ok h1
      · exact rt_bad) e i h
end Go.Proofs.YtnlikhjmmnaknaaGreatDoor
