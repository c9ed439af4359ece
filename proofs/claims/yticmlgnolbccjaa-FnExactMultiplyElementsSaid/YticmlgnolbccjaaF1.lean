/- Going along the lines of two diagrams that stand one above the other: the path as a plain function. -/
import Derived.Test.YticmlgnolbccjaaT1
set_option linter.unusedVariables false
set_option linter.unusedSimpArgs false
namespace Go.Proofs.Yticmlgnolbccjaa
open Go.RowKit

/-- The mate of a point of the upper or of the lower diagram. -/
def hop (d e : Dg) (l : Bool) (p : Nat) : Nat := ((if l then e else d).m p).toNat

/-- From a point of one of both: the point at the end, and the middle points that are met; -1 where the middle point u is met. -/
def fol (d e : Dg) (n : Nat) (u : Int) : Nat → Bool → Nat → Option (Int × List Nat)
  | 0, _, _ => none
  | k + 1, l, p =>
    let q := hop d e l p
    if l = decide (n ≤ q) then some (q, [])
    else if ((q % n : Nat) : Int) = u then some (-1, [q % n])
    else (fol d e n u k (!l) (if l then n + q % n else q % n)).map fun r => (r.1, q % n :: r.2)

theorem fol_end {d e : Dg} {n : Nat} {u : Int} {k : Nat} {l : Bool} {p : Nat} (h : l = decide (n ≤ hop d e l p)) : fol d e n u (k + 1) l p = some (((hop d e l p : Nat) : Int), []) := by
  show (if _ then _ else _) = _; exact if_pos h
theorem fol_until {d e : Dg} {n : Nat} {u : Int} {k : Nat} {l : Bool} {p : Nat} (h : ¬ l = decide (n ≤ hop d e l p)) (hu : ((hop d e l p % n : Nat) : Int) = u) : fol d e n u (k + 1) l p = some (-1, [hop d e l p % n]) := by
  show (if _ then _ else if _ then _ else _) = _; rw [if_neg h, if_pos hu]
theorem fol_step {d e : Dg} {n : Nat} {u : Int} {k : Nat} {l : Bool} {p : Nat} (h : ¬ l = decide (n ≤ hop d e l p)) (hu : ¬ ((hop d e l p % n : Nat) : Int) = u) :
    fol d e n u (k + 1) l p = (fol d e n u k (!l) (if l then n + hop d e l p % n else hop d e l p % n)).map fun r => (r.1, hop d e l p % n :: r.2) := by
  show (if _ then _ else if _ then _ else _) = _; rw [if_neg h, if_neg hu]

/-- Marks at places. -/
def marks (s : Nat → Bool) (ms : List Nat) : Nat → Bool := ms.foldl (fun s m j => if j = m then true else s j) s
theorem marks_nil (s : Nat → Bool) : marks s [] = s := rfl
theorem marks_cons (s : Nat → Bool) (m : Nat) (ms : List Nat) : marks s (m :: ms) = marks (fun j => if j = m then true else s j) ms := rfl
theorem marks_iff (ms : List Nat) : ∀ (s : Nat → Bool) (j : Nat), marks s ms j = (s j || decide (j ∈ ms)) := by
  induction ms with
  | nil => intro s j; simp [marks]
  | cons m ms ih =>
    intro s j
    rw [marks_cons, ih]
    by_cases h : j = m <;> simp [h]

/-- The cells of the stack of the program: both diagrams, the marks, and a function. -/
def stk (bd be : Nat) (s : Nat → Bool) (g : Value) : List Value :=
  [.pointer (some ⟨bd, 0, none⟩), .pointer (some ⟨be, 0, none⟩)] ++ ((List.range 8).map fun i => .bool (s i)) ++ [g]
def stkA (bd be : Nat) (s : Nat → Bool) (g : Value) : Array Value := (stk bd be s g).toArray
theorem stk0 (bd be : Nat) (s : Nat → Bool) (g : Value) : (stkA bd be s g)[0]? = some (.pointer (some ⟨bd, 0, none⟩)) := rfl
theorem stk1 (bd be : Nat) (s : Nat → Bool) (g : Value) : (stkA bd be s g)[1]? = some (.pointer (some ⟨be, 0, none⟩)) := rfl
theorem stk10 (bd be : Nat) (s : Nat → Bool) (g : Value) : (stkA bd be s g)[10]? = some g := rfl
theorem stkA_size (bd be : Nat) (s : Nat → Bool) (g : Value) : (stkA bd be s g).size = 11 := by simp [stkA, stk]
theorem stk_seen (bd be : Nat) (s : Nat → Bool) (g : Value) (i : Nat) (h : i < 8) : (stkA bd be s g)[2 + i]? = some (.bool (s i)) := by
  have : i = 0 ∨ i = 1 ∨ i = 2 ∨ i = 3 ∨ i = 4 ∨ i = 5 ∨ i = 6 ∨ i = 7 := by omega
  rcases this with rfl | rfl | rfl | rfl | rfl | rfl | rfl | rfl <;> rfl
theorem stk_set (bd be : Nat) (s : Nat → Bool) (g : Value) (i : Nat) (h : i < 8) : (stkA bd be s g).setIfInBounds (2 + i) (.bool true) = stkA bd be (fun j => if j = i then true else s j) g := by
  have : i = 0 ∨ i = 1 ∨ i = 2 ∨ i = 3 ∨ i = 4 ∨ i = 5 ∨ i = 6 ∨ i = 7 := by omega
  rcases this with rfl | rfl | rfl | rfl | rfl | rfl | rfl | rfl <;> rfl
attribute [go_sem] stk0 stk1 stk10

/-- How far a line can go. -/
def fuel : Nat := 40
/-- The other end of the line of an outer point, and the middle points on the way. -/
def res (d e : Dg) (n : Nat) (l : Bool) (p : Nat) : Int := ((fol d e n (-1) fuel l p).getD (0, [])).1
def vis (d e : Dg) (n : Nat) (l : Bool) (p : Nat) : List Nat := ((fol d e n (-1) fuel l p).getD (0, [])).2
/-- The middle points on the loop of a middle point. -/
def cyc (d e : Dg) (n : Nat) (m : Nat) : List Nat := ((fol d e n m fuel true m).getD (0, [])).2
/-- The product, with the lines of the first j points of both sides. -/
def outTo (d e : Dg) (n : Nat) (j : Nat) : Dg := (List.range j).foldl (fun o (i : Nat) => (o.put i (res d e n false i)).put (n + i) (res d e n true (n + i))) (Dg.zero n)
def seenTo (d e : Dg) (n : Nat) (j : Nat) : Nat → Bool := (List.range j).foldl (fun s (i : Nat) => marks (marks s (vis d e n false i)) (vis d e n true (n + i))) (fun _ => false)
/-- The marks and the number of loops, when the first j middle points are done. -/
def loopTo (d e : Dg) (n : Nat) (j : Nat) : (Nat → Bool) × Nat := (List.range j).foldl (fun x (m : Nat) => if x.1 m = true then x else (marks x.1 (cyc d e n m), x.2 + 1)) (seenTo d e n n, 0)
theorem outTo_succ (d e : Dg) (n j : Nat) : outTo d e n (j + 1) = ((outTo d e n j).put j (res d e n false j)).put (n + j) (res d e n true (n + j)) := by simp [outTo, List.range_succ]
theorem seenTo_succ (d e : Dg) (n j : Nat) : seenTo d e n (j + 1) = marks (marks (seenTo d e n j) (vis d e n false j)) (vis d e n true (n + j)) := by simp [seenTo, List.range_succ]
theorem loopTo_succ (d e : Dg) (n j : Nat) : loopTo d e n (j + 1) = if (loopTo d e n j).1 j = true then loopTo d e n j else (marks (loopTo d e n j).1 (cyc d e n j), (loopTo d e n j).2 + 1) := by
  unfold loopTo; rw [List.range_succ, List.foldl_append]; rfl
theorem len_outTo (d e : Dg) (n j : Nat) : (outTo d e n j).mate.length = 16 := by
  induction j with
  | zero => simp [outTo, Dg.len_zero]
  | succ j ih => rw [outTo_succ, Dg.len_put, Dg.len_put, ih]

/-- The product of two diagrams of the size n, and the number of loops. -/
def prodD (d e : Dg) (n : Nat) : Dg := outTo d e n n
def prodL (d e : Dg) (n : Nat) : Nat := (loopTo d e n n).2

/-- Each line ends, at a point of the right kind, and each loop comes back. -/
structure Runs (d e : Dg) (n : Nat) : Prop where
  up : ∀ i, i < n → ∃ r, fol d e n (-1) fuel false i = some r ∧ 0 ≤ r.1 ∧ r.1 < 2 * n
  down : ∀ i, i < n → ∃ r, fol d e n (-1) fuel true (n + i) = some r ∧ 0 ≤ r.1 ∧ r.1 < 2 * n
  loop : ∀ m, m < n → (loopTo d e n m).1 m = false → ∃ r, fol d e n m fuel true m = some r

theorem loopTo_le (d e : Dg) (n j : Nat) : (loopTo d e n j).2 ≤ j := by
  induction j with
  | zero => simp [loopTo]
  | succ j ih =>
    rw [loopTo_succ]
    split
    · omega
    · show (loopTo d e n j).2 + 1 ≤ j + 1; omega
end Go.Proofs.Yticmlgnolbccjaa
