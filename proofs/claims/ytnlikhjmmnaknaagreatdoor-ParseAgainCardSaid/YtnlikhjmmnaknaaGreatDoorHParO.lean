/-
  A parser that a walk has made: its frame, and what the walk knew before.
-/
import Derived.Test.YtnlikhjmmnaknaaGreatDoorHParN
namespace Go.Proofs.YtnlikhjmmnaknaaGreatDoor
open Go.RowKit

section
variable {S : World → Prop} {w0 w w' : World} {ks ks2 : List Kp} {s : ByteArray} {l : List Tk} {P g : Nat} {m : Md}
/-- a new parser -/
theorem Fr.sm0 {c : Nat} {pt : TypeId} (f : Fr none S w0 w (blkK P (.cells #[.slice (some ⟨g, 0, none⟩) l.length c, .int .i64 0, .int .i64 0, .int .i64 0, .int .i64 0] pt (0, 0)) :: rowK w0 56 5 (.slice (some ⟨g, 0, none⟩) l.length c) l.length (l.flatMap (Tk.cells s)) :: ks)) (hpt : pt ≠ 56) (h0 : 0 < l.length) (hm : l.length ≤ 1000000) : Sm s l P g w (.ok 0) :=
  ⟨⟨c, w0.heap.size, pt, hpt, f.blk, f.tail.head.q⟩, h0, hm⟩
/-- what was known before the parser's calls, and what they gave -/
theorem Fr.join {o : Obj} (f : Fr none S w0 w (blkK P o :: ks)) (f2 : PF s l P g w m w' ks2) : ∃ o', Fr none S w0 w' (blkK P o' :: (ks2 ++ ks)) := by
  have hP := f.head.lo P rfl
  have hPw := f.head.hi P rfl
  have hPw' : P < w'.heap.size := Nat.lt_of_lt_of_le hPw f2.gr.size
  have hap := List.pairwise_cons.1 f.ap
  refine ⟨w'.heap[P], f.ss w w' _ f.st f.gr.size f2.gr (fun T hT => by injection hT with hT; omega), f.ss, grown_row f.gr f2.gr (fun T hT => by injection hT with hT; omega), f.lt, ?_, ?_⟩
  · intro x hx
    rcases List.mem_cons.1 hx with rfl | hx
    · exact ⟨fun n hn => by have hn : n = P := hn; omega, fun n hn => by have hn : n = P := hn; omega, Array.getElem?_eq_getElem hPw', blkK_ok _ _⟩
    · rcases List.mem_append.1 hx with hx | hx
      · obtain ⟨h1, h2, h3, h4⟩ := f2.k x hx
        exact ⟨fun n hn => Nat.le_trans f.gr.size (h1 n hn), h2, h3, h4⟩
      · obtain ⟨h1, h2, h3, h4⟩ := f.k x (List.mem_cons_of_mem _ hx)
        exact ⟨h1, fun n hn => Nat.lt_of_lt_of_le (h2 n hn) f2.gr.size, h4 _ _ _ h2 h3 f2.gr (fun T hT hn => by injection hT with hT; subst hT; exact hap.1 x hx _ rfl hn), h4⟩
  · refine List.pairwise_cons.2 ⟨fun x hx n hn => ?_, List.pairwise_append.2 ⟨f2.ap, hap.2, fun x hx y hy n hn hm => ?_⟩⟩
    · have hn : n = P := hn
      subst hn
      rcases List.mem_append.1 hx with hx | hx
      · intro hm; have := (f2.k x hx).lo _ hm; omega
      · exact hap.1 x hx _ rfl
    · have h1 := (f2.k x hx).lo n hn
      have h2 := (f.k y (List.mem_cons_of_mem _ hy)).hi n hm
      omega
/-- a row that a call made -/
theorem Fr.addRow {t : TypeId} {sz n : Nat} {v : Value} {xs : List Value} (f : Fr none S w0 w ks) (hb : Below w.heap.size w w') (ho : w'.ownsRow w.heap.size t sz v n xs) : Fr none S w0 w' (rowK w0 t sz v n xs :: ks) := by
  refine (f.below hb).add (n := w.heap.size) ⟨fun n hn => (ho.lt n hn).1, fun n hn => (ho.lt n hn).2, row_base ho f.gr.size, rowK_ok _ _ _ _ _ _⟩ f.gr.size (fun y hy m hm => (f.k y hy).hi m hm)
theorem Fr.exd {D : Nat → Prop} {e : Ex} {A : Option Addr} {c : Nat} (h : Fr none S w0 w (exK D e A c :: ks)) : ExIn (Iv w0.heap.size w.heap.size) w e A c := ExIn.wide (fun n hn => ⟨h.head.lo n hn, h.head.hi n hn⟩) _ _ _ h.head.q
end
theorem blk3 {w : World} {T : Nat} {v0 v1 v2 : Value} {t : TypeId} (h : w.heap[T]? = some (.cells #[v0, v1, v2] t (0, 0))) :
    w.cell? ⟨T, 0, none⟩ = some v0 ∧ w.cell? ⟨T, 1, none⟩ = some v1 ∧ w.cell? ⟨T, 2, none⟩ = some v2 ∧ w.frozen? ⟨T, 0, none⟩ = false ∧ w.frozen? ⟨T, 1, none⟩ = false ∧ w.frozen? ⟨T, 2, none⟩ = false :=
  ⟨Lib.cell_of_heap h 0, Lib.cell_of_heap h 1, Lib.cell_of_heap h 2, frozen_none h, frozen_none h, frozen_none h⟩
theorem Fr.set3 {P : Option Nat} {T : Nat} {S : World → Prop} {w0 w : World} {ks : List Kp} {a0 a1 a2 : Value} {t : TypeId} {fr : Nat × Nat} (h : Fr P S w0 w (blkK T (.cells #[a0, a1, a2] t fr) :: ks)) (v0 v1 v2 : Value) :
    Fr P S w0 (((w.setCell ⟨T, 0, none⟩ v0).setCell ⟨T, 1, none⟩ v1).setCell ⟨T, 2, none⟩ v2) (blkK T (.cells #[v0, v1, v2] t fr) :: ks) :=
  h.put (grown_trans (grown_set _ _ _ _) (grown_trans (grown_set _ _ _ _) (grown_set _ _ _ _))) (blk_set (blk_set (blk_set h.blk 0 v0) 1 v1) 2 v2)
theorem parser_ne_tok : (53 : TypeId) ≠ 56 := by decide

/-- the expression of a text; or what is wrong, and where -/
def parseOf (s : ByteArray) : PR := match scanOf s with
  | .bad e p => .bad e (place s p).1 (place s p).2
  | .toks l => (exprN s l 64 0 0).then fun e i => if (tkN l i).kind = 5 then .ok e i else badN s l 21 i
def ExprPost (s : ByteArray) (w : World) (r : Ending) (w' : World) : Prop := Below w.heap.size w w' ∧ match parseOf s with
  | .ok e _ => ∃ A c, r = .returned (.tuple #[e.val A c, .agg #[.int .i64 0, .int .i64 0, .int .i64 0]]) ∧ ExIn (Iv w.heap.size w'.heap.size) w' e A c
  | .bad er ln cl => er ≠ 0 ∧ r = .returned (.tuple #[.agg #[.int .i64 0, .string ⟨#[]⟩, .int .i64 0, .slice none 0 0, .int .i64 0, .int .i64 0], .agg #[.int .i64 er, .int .i64 ln, .int .i64 cl]])
theorem parse_toks {s : ByteArray} {l : List Tk} (hsc : scanOf s = .toks l) {mx : Md} {e : Ex} {t : Int} (hc : Came (exprN s l 64 0 0) mx e t) : match (mx.ends s l) with
  | .ok i => parseOf s = .ok e i
  | .bad a b c => parseOf s = .bad a b c := by
  unfold parseOf
  rw [hsc]
  dsimp only
  generalize exprN s l 64 0 0 = q at *
  cases q with
  | bad a b c => have hc : mx = _ := hc; subst hc; rfl
  | ok e1 i1 =>
    obtain ⟨rfl, rfl, rfl⟩ := hc
    show match Md.ends s l (.ok i1) with | .ok i => _ | .bad a b c => _
    unfold Md.ends
    dsimp only
    by_cases hk : (tkN l i1).kind = 5
    · rw [if_pos hk]; show (if _ then _ else _) = _; rw [if_pos hk]
    · rw [if_neg hk]; show (if _ then _ else _) = _; rw [if_neg hk]; rfl
end Go.Proofs.YtnlikhjmmnaknaaGreatDoor
