/-
  A trace read, plain; rows of rows that a walk makes.
-/
import Derived.Test.YtmdnmodjdgcmjaaDoorHTrM
namespace Go.Proofs.YtmdnmodjdgcmjaaDoor
open Go.RowKit

def rdGo (ts us : List Int) : List UInt8 → List UInt8 → List (List Int) → List (List Int) → List (List Int) × List (List Int) × Nat × Int
  | [], cur, p, q => if cur = [] then (p, q, 0, 0) else ([], [], p.length + 1, 11)
  | c :: l, cur, p, q => if c = 10 then (match lineP ts us p.length cur with
    | none => ([], [], p.length + 1, 11)
    | some (a, b) => if b ≠ [] ∧ q.length < p.length then ([], [], p.length + 1, 11) else rdGo ts us l [] (p ++ [a]) (if b = [] then q else q ++ [b])) else rdGo ts us l (cur ++ [c]) p q
def readT (ts us : List Int) (s : List UInt8) : List (List Int) × List (List Int) × Nat × Int :=
  if (rightT ts && rightT us) = false then ([], [], 0, 2) else rdGo ts us s [] [] []
section
variable {ts us : List Int} {p q : List (List Int)}
theorem rdGo_app : ∀ (a cur l : List UInt8), (∀ c ∈ a, c ≠ 10) → rdGo ts us (a ++ l) cur p q = rdGo ts us l (cur ++ a) p q
  | [], cur, l, _ => by rw [List.nil_append, List.append_nil]
  | c :: a, cur, l, h => by
    rw [List.cons_append, rdGo, if_neg (h c (List.mem_cons_self ..)), rdGo_app a (cur ++ [c]) l (fun x hx => h x (List.mem_cons_of_mem _ hx))]
    simp
theorem rdGo_none {s : List UInt8} (hs : s ≠ []) (h : ∀ c ∈ s, c ≠ 10) : rdGo ts us s [] p q = ([], [], p.length + 1, 11) := by
  have := rdGo_app (ts := ts) (us := us) (p := p) (q := q) s [] [] h
  rw [List.append_nil] at this
  rw [this, List.nil_append, rdGo, if_neg hs]
theorem rdGo_line {a l : List UInt8} (h : ∀ c ∈ a, c ≠ 10) : rdGo ts us (a ++ 10 :: l) [] p q = match lineP ts us p.length a with
    | none => ([], [], p.length + 1, 11)
    | some (x, y) => if y ≠ [] ∧ q.length < p.length then ([], [], p.length + 1, 11) else rdGo ts us l [] (p ++ [x]) (if y = [] then q else q ++ [y]) := by
  rw [rdGo_app a [] _ h, rdGo, if_pos rfl]; rfl
end

def rowC (x : Ro) : List Value := [.slice x.S.A x.l.length x.S.cap]
def roK (D : Nat → Prop) (x : Ro) : Kp := ⟨D, fun w => SlAt 1 (IntIn D w) x.S.A x.l ∧ x.l.length ≤ maxLen⟩
def rosK (D : Nat → Prop) (rs : List Ro) : Kp := ⟨D, fun w => ∀ x ∈ rs, SlAt 1 (IntIn D w) x.S.A x.l ∧ x.l.length ≤ maxLen⟩
theorem roK_ok (D : Nat → Prop) (x : Ro) : (roK D x).Ok := fun _ _ _ _ hq hg hr => ⟨hq.1.imp fun _ _ _ => IntIn.keep (stay_grown hg hr) (fun _ h => h), hq.2⟩
theorem rosK_ok (D : Nat → Prop) (rs : List Ro) : (rosK D rs).Ok := fun _ _ _ _ hq hg hr x hx => ⟨(hq x hx).1.imp fun _ _ _ => IntIn.keep (stay_grown hg hr) (fun _ h => h), (hq x hx).2⟩
section
variable {P : Option Nat} {S : World → Prop} {w0 wb w w' : World} {ks : List Kp} {A : Option Addr} {n c : Nat} {D D' : Nat → Prop}
theorem Fr.toRo {l : List Int} (h : Fr P S w0 w (rowK wb 3 1 (.slice A n c) n (l.flatMap intC) :: ks)) (hn : l.length = n) (h64 : ∀ v ∈ l, I64 v) : Fr P S w0 w (roK (fun m => (Value.slice A n c).ownBlock = some m) ⟨l, ⟨A, c⟩⟩ :: ks) := by
  have h1 := sl_own intC 1 (fun _ => rfl) (D := fun m => (Value.slice A n c).ownBlock = some m) hn h.head.q (fun g hg => hg)
    (P := fun b o v => (Value.slice A n c).ownBlock = some b ∧ w.cell? ⟨b, o, none⟩ = some (.int .i64 v)) (fun b o j hj hD hc => ⟨hD, hc 0 (by omega)⟩)
  refine h.turn1 (fun _ h => h) ⟨fun j hj => ?_, ?_⟩ (roK_ok _ _)
  · obtain ⟨b, o, hA, hb, hc⟩ := h1.2 j hj
    exact ⟨b, o, hA, hb, h64 _ (List.getElem_mem hj), hc⟩
  · show l.length ≤ maxLen
    rw [hn]; exact Nat.le_trans h1.1.1 h1.1.2
theorem Fr.rosPush {rs : List Ro} {x : Ro} (h : Fr P S w0 w (rosK D rs :: roK D' x :: ks)) : Fr P S w0 w (rosK (fun n => D n ∨ D' n) (rs ++ [x]) :: ks) := by
  refine h.fuse (fun _ h => h) (fun y hy => ?_) (rosK_ok _ _)
  rcases List.mem_append.1 hy with hy | hy
  · have := h.head.q y hy
    exact ⟨this.1.imp fun _ _ _ => IntIn.keep stay_rfl (fun _ h => .inl h), this.2⟩
  · rw [List.mem_singleton.1 hy]
    have := h.tail.head.q
    exact ⟨this.1.imp fun _ _ _ => IntIn.keep stay_rfl (fun _ h => .inr h), this.2⟩
theorem Fr.noRos (h : Fr P S w0 w ks) : Fr P S w0 w (rowK w0 38 1 (.slice none 0 0) 0 (([] : List Ro).flatMap rowC) :: rosK (fun _ => False) [] :: ks) :=
  (h.free (x := rosK (fun _ => False) []) (fun _ h => h) (fun x hx => by cases hx) (rosK_ok _ _)).nilRow _ _
theorem Fr.rowsAt {rs : List Ro} (h : Fr P S w0 w (rowK wb 38 1 (.slice A n c) n (rs.flatMap rowC) :: rosK D rs :: ks)) (hn : rs.length = n) : RowsAt w A rs := fun j hj => by
  obtain ⟨b, o, hA, hc⟩ := (sl_own rowC 1 (fun _ => rfl) (D := fun _ => True) hn h.head.q (fun _ _ => trivial) (P := fun b o (x : Ro) => w.cell? ⟨b, o, none⟩ = some (.slice x.S.A x.l.length x.S.cap)) (fun b o j hj hD hc => hc 0 (by omega))).2 j hj
  have h1 := h.tail.head.q _ (List.getElem_mem hj)
  refine ⟨b, o, hA, by rwa [Nat.mul_one] at hc, ints_at h1.1, h1.2, fun v hv => ?_⟩
  obtain ⟨i, hi, rfl⟩ := List.getElem_of_mem hv
  obtain ⟨b', o', _, h2⟩ := h1.1 i hi
  exact h2.2.1
theorem Fr.rowsLen {rs : List Ro} (h : Fr P S w0 w (rowK wb 38 1 (.slice A n c) n (rs.flatMap rowC) :: ks)) (hn : rs.length = n) : n ≤ maxLen := by
  have := (sl_own rowC 1 (fun _ => rfl) (D := fun _ => True) hn h.head.q (fun _ _ => trivial) (P := fun b o (x : Ro) => w.cell? ⟨b, o, none⟩ = some (.slice x.S.A x.l.length x.S.cap)) (fun b o j hj hD hc => hc 0 (by omega))).1
  exact Nat.le_trans this.1 this.2
/-- what a call has made -/
theorem Fr.joins {S' : World → Prop} {ls : List Kp} (f : Fr none S w0 w ks) (g : Fr none S' w w' ls) : Fr none S w0 w' (ls ++ ks) := by
  have h := f.below g.low
  refine ⟨h.st, h.ss, h.gr, h.lt, fun x hx => ?_, List.pairwise_append.2 ⟨g.ap, f.ap, fun x hx y hy n h1 h2 => ?_⟩⟩
  · rcases List.mem_append.1 hx with hx | hx
    · have hk := g.k x hx
      exact ⟨fun n hn => Nat.le_trans f.gr.size (hk.lo n hn), hk.hi, hk.q, hk.ok⟩
    · exact h.k x hx
  · have h3 := (g.k x hx).lo n h1
    have h4 := (f.k y hy).hi n h2
    omega
end
theorem sl_one {A : Option Addr} {n c : Nat} : ∀ u ∈ (#[.slice A n c] : Array Value).toList, u.oneCell' = true := by
  intro u hu
  have : u = _ := List.mem_singleton.1 hu
  subst this; rfl
theorem ints.info : (Tryd.prog.info? 38).map (fun i => (i.zero, i.size, i.bytes)) = some (some (.slice none 0 0), 1, 24) := by kernel_rfl
theorem info_ints : ∃ i z, Tryd.prog.info? 38 = some i ∧ i.zero = some z ∧ i.size = 1 ∧ i.bytes = 24 ∧ z.cells.size = 1 := by
  have hi := ints.info
  cases h : Tryd.prog.info? 38 with
  | none => rw [h] at hi; cases hi
  | some i0 => rw [h] at hi; simp only [Option.map_some, Option.some.injEq, Prod.mk.injEq] at hi; exact ⟨i0, _, rfl, hi.1, hi.2.1, hi.2.2, rfl⟩
/-- what Read leaves -/
def RdTPost (p : List (List Int) × List (List Int) × Nat × Int) (w : World) (r : Ending) (w' : World) : Prop :=
  ∃ (rs qs : List Ro) (A : Option Addr) (n c : Nat) (B : Option Addr) (m d : Nat) (D D' : Nat → Prop), r = .returned (.tuple #[.slice A n c, .slice B m d, .int .i64 (p.2.2.1 : Int), .int .i64 p.2.2.2]) ∧ rs.length = n ∧ qs.length = m ∧ rosL rs = p.1 ∧ rosL qs = p.2.1 ∧
    Fr none (fun _ => True) w w' [rowK w 38 1 (.slice A n c) n (rs.flatMap rowC), rosK D rs, rowK w 38 1 (.slice B m d) m (qs.flatMap rowC), rosK D' qs]
theorem rdT_nil {w w' : World} {ks : List Kp} (f : Fr none (fun _ => True) w w' ks) (k : Nat) (e : Int) : RdTPost ([], [], k, e) w (.returned (.tuple #[.slice none 0 0, .slice none 0 0, .int .i64 (k : Int), .int .i64 e])) w' :=
  ⟨[], [], none, 0, 0, none, 0, 0, fun _ => False, fun _ => False, rfl, rfl, rfl, rfl, rfl, (f.noRos.noRos).sub (List.Sublist.cons_cons _ (List.Sublist.cons_cons _ (List.Sublist.cons_cons _ (List.Sublist.cons_cons _ (List.nil_sublist _)))))⟩
def strLen : Value → Nat
  | .string s => s.size
  | _ => 0
end Go.Proofs.YtmdnmodjdgcmjaaDoor
