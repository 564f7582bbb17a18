/-
  Plain: what is parsed of many lines 'save'.
-/
import Derived.Test.YtmdnmodjdgcmjaaDoorHScE
namespace Go.Proofs.YtmdnmodjdgcmjaaDoor

def saveE : EvE := ⟨3, 0, [], []⟩
theorem save_line : lineV saveE = [115, 97, 118, 101, 10] := by simp [lineV, wordsV, saveE, Lib.join_one, sSave]
def saves (k : Nat) : List UInt8 := (List.replicate k [115, 97, 118, 101, 10]).flatten
theorem saves_text (k : Nat) : saves k = ((List.replicate k saveE).map lineV).flatten := by simp [saves, save_line]
theorem saves_step (k : Nat) : saves (k + 1) = saves k ++ [115, 97, 118, 101, 10] := by
  unfold saves
  rw [List.replicate_succ', List.flatten_append]
  simp
theorem saves_len : ∀ k, (saves k).length = 5 * k
  | 0 => rfl
  | k + 1 => by rw [saves_step, List.length_append, saves_len k]; simp; omega
theorem save_right : rightV saveE = true ∧ saveE.fine := ⟨by decide, by unfold R64; decide, fun v h => by cases h⟩
theorem saves_few {k : Nat} (h : k ≤ 4096) : parseV (saves k) = (List.replicate k saveE, 0, 0) := by
  rw [saves_text]
  exact parse_text (fun x hx => by rw [List.eq_of_mem_replicate hx]; exact save_right) (by simpa using h)
theorem saves_go : ∀ (m i : Nat) (acc : List EvE) (ts : List (List UInt8)), acc.length ≤ 4096 → 4096 < acc.length + m → parseGo (List.replicate m [115, 97, 118, 101] ++ ts) i acc = ([], i + (4096 - acc.length) + 1, 3)
  | 0, i, acc, ts, h1, h2 => by omega
  | m + 1, i, acc, ts, h1, h2 => by
    rw [List.replicate_succ, List.cons_append, parseGo, show wordsOf [115, 97, 118, 101] = [sSave] by decide]
    dsimp only
    rw [if_neg (by decide), show evP [sSave] = some saveE by decide]
    dsimp only
    by_cases h : acc.length = 4096
    · rw [if_pos h, h]
    · rw [if_neg h, saves_go m (i + 1) (acc ++ [saveE]) ts (by simp; omega) (by simp; omega)]
      simp; omega
theorem saves_many {k : Nat} (h : 4096 < k) : parseV (saves k) = ([], 4097, 3) := by
  unfold parseV
  rw [saves_text, lines_text, show ((List.replicate k saveE).map fun x => Lib.join (wordsV x) [32]) = List.replicate k [115, 97, 118, 101] by simp [wordsV, saveE, Lib.join_one, sSave]]
  exact saves_go k 0 [] [[]] (by simp) (by simpa using h)
end Go.Proofs.YtmdnmodjdgcmjaaDoor
