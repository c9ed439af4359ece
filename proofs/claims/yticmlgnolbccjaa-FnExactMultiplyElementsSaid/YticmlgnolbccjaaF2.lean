/- The marks of the reference, and its way to count loops: plain. -/
import Derived.Test.YticmlgnolbccjaaL2
set_option linter.unusedVariables false
set_option linter.unusedSimpArgs false
namespace Go.Proofs.Yticmlgnolbccjaa
open Go.RowKit

/-- Eight marks in memory. -/
def bls (s : Nat → Bool) : Array Value := ((List.range 8).map fun i => .bool (s i)).toArray
theorem bls_size (s : Nat → Bool) : (bls s).size = 8 := by simp [bls]
theorem bls_get (s : Nat → Bool) (i : Nat) (h : i < 8) : (bls s)[i]? = some (.bool (s i)) := by simp [bls, h]
theorem bls_set (s : Nat → Bool) (i : Nat) (h : i < 8) : (bls s).setIfInBounds i (.bool true) = bls fun j => if j = i then true else s j := by
  have : i = 0 ∨ i = 1 ∨ i = 2 ∨ i = 3 ∨ i = 4 ∨ i = 5 ∨ i = 6 ∨ i = 7 := by omega
  rcases this with rfl | rfl | rfl | rfl | rfl | rfl | rfl | rfl <;> rfl

/-- The marks when a loop of the reference has been gone through from a middle point. -/
def lpo (d e : Dg) (n : Nat) : Nat → (Nat → Bool) → Nat → Option (Nat → Bool)
  | 0, _, _ => none
  | f + 1, s, k =>
    if s k = true then some s
    else if hop d e false (n + k) < n then none
    else if n ≤ hop d e true (hop d e false (n + k) - n) then none
    else lpo d e n f (fun j => if j = hop d e false (n + k) - n then true else if j = k then true else s j) (hop d e true (hop d e false (n + k) - n))

theorem lpo_met {d e : Dg} {n f k : Nat} {s : Nat → Bool} (h : s k = true) : lpo d e n (f + 1) s k = some s := by
  show (if _ then _ else _) = _; exact if_pos h
theorem lpo_go {d e : Dg} {n f k : Nat} {s r : Nat → Bool} (h : s k = false) (hr : lpo d e n (f + 1) s k = some r) : n ≤ hop d e false (n + k) ∧ hop d e true (hop d e false (n + k) - n) < n ∧
    lpo d e n f (fun j => if j = hop d e false (n + k) - n then true else if j = k then true else s j) (hop d e true (hop d e false (n + k) - n)) = some r := by
  have hr' : (if s k = true then some s else if hop d e false (n + k) < n then none else if n ≤ hop d e true (hop d e false (n + k) - n) then none
    else lpo d e n f (fun j => if j = hop d e false (n + k) - n then true else if j = k then true else s j) (hop d e true (hop d e false (n + k) - n))) = some r := hr
  rw [if_neg (by rw [h]; simp)] at hr'
  split at hr'
  · cases hr'
  · split at hr'
    · cases hr'
    · exact ⟨by omega, by omega, hr'⟩

/-- The marks and the number of loops of the reference, when the first j middle points are done. -/
def sloopTo (d e : Dg) (n : Nat) (j : Nat) : (Nat → Bool) × Nat := (List.range j).foldl (fun x (m : Nat) => if x.1 m = true then x else ((lpo d e n fuel x.1 m).getD x.1, x.2 + 1)) (seenTo d e n n, 0)
theorem sloopTo_succ (d e : Dg) (n j : Nat) : sloopTo d e n (j + 1) = if (sloopTo d e n j).1 j = true then sloopTo d e n j else ((lpo d e n fuel (sloopTo d e n j).1 j).getD (sloopTo d e n j).1, (sloopTo d e n j).2 + 1) := by
  unfold sloopTo; rw [List.range_succ, List.foldl_append]; rfl
theorem sloopTo_le (d e : Dg) (n j : Nat) : (sloopTo d e n j).2 ≤ j := by
  induction j with
  | zero => simp [sloopTo]
  | succ j ih =>
    rw [sloopTo_succ]
    split
    · omega
    · show (sloopTo d e n j).2 + 1 ≤ j + 1; omega

/-- Each loop of the reference comes to its end. -/
def SRuns (d e : Dg) (n : Nat) : Prop := ∀ m, m < n → (sloopTo d e n m).1 m = false → ∃ r, lpo d e n fuel (sloopTo d e n m).1 m = some r
end Go.Proofs.Yticmlgnolbccjaa
