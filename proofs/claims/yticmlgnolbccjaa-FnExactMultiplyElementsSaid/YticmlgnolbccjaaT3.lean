/- Terms that are built. -/
import Derived.Test.YticmlgnolbccjaaT2
import Derived.Great.BuildSlice
set_option linter.unusedVariables false
set_option linter.unusedSimpArgs false
namespace Go.Proofs.Yticmlgnolbccjaa
open Go.RowKit

theorem built_term (d : Dg) (k : Int) : Try.prog.built 57 [(0, .agg d.cells), (1, .int .i64 k)] = some (Tm.cells ⟨d, k⟩) := by kernel_rfl

theorem fill_term (t : Tm) : Instr.fill (fun i => some (i * 18, 18)) ((Array.range (1 * 18)).map ((Value.agg (⟨⟨0, List.replicate 16 0⟩, 0⟩ : Tm).cells).cells[· % (Value.agg (⟨⟨0, List.replicate 16 0⟩, 0⟩ : Tm).cells).cells.size]!)) [(0, .agg t.cells)] = some t.cells := by kernel_rfl

section
variable {ops : Array Oper} {rest : List Oper} {o : Oper} {a : Act} {w : World} {Q : Exit → Act → World → Prop}
set_option maxRecDepth 100000 in
theorem build_term (hg : o.guard = none) (x y : Operand) (ho : o.op = .build 57 #[(0, x), (1, y)]) (d : Dg) (k : Int) (hx : a.eval x = .agg d.cells) (hy : a.eval y = .int .i64 k)
    (h : wpList Try.prog ops Q rest (a.put o.dst (.agg (Tm.cells ⟨d, k⟩))) w) : wpList Try.prog ops Q (o :: rest) a w :=
  wpList_buildTo hg _ _ ho _ rfl _ (by simp only [List.map_toArray, List.map_cons, List.map_nil, hx, hy]; exact built_term d k) h

set_option maxRecDepth 100000 in
theorem row_term (hg : o.guard = none) (x : Operand) (ho : o.op = .buildSlice 28 1 #[(0, x)]) (t : Tm) (hx : a.eval x = .agg t.cells)
    (h : wpList Try.prog ops Q rest (a.put o.dst (.slice (some ⟨w.heap.size, 0, none⟩) 1 1)) (w.alloc (.cells t.cells 57))) : wpList Try.prog ops Q (o :: rest) a w := by
  obtain ⟨i0, hi, hz0, hz1, hz2⟩ := info_parts rowTerm.info
  refine wpList_buildSlice hg _ 57 1 _ ho t.cells i0 _ rowTerm.und hi hz0 (by rw [hz1]; decide) (by rw [hz1]; decide) ?_ h
  rw [hz1]
  simp only [List.map_toArray, List.map_cons, List.map_nil, hx]
  exact fill_term t
end

section
variable {ops : Array Oper} {rest : List Oper} {o : Oper} {a : Act} {w : World} {Q : Exit → Act → World → Prop}
set_option maxRecDepth 100000 in
/-- The terms from a place on. -/
theorem slice_from (hg : o.guard = none) (x y : Operand) (ho : o.op = .slice 28 x (some y) none none) (g n cap l : Nat) (hx : a.eval x = .slice (some ⟨g, 0, none⟩) n cap) (L : Int) (hy : a.eval y = .int .i64 L) (hL : L = l) (hl : l ≤ n) (hc : n ≤ cap)
    (h : ∀ off, (l < cap → off = l * 18) → wpList Try.prog ops Q rest (a.put o.dst (.slice (some ⟨g, off, none⟩) (n - l) (cap - l))) w) : wpList Try.prog ops Q (o :: rest) a w := by
  subst hL
  obtain ⟨i0, hi, hz0, hz1, hz2⟩ := info_parts rowTerm.info
  have he : Try.prog.elem 28 = 57 := by kernel_rfl
  have ht : Try.prog.underlying 28 = some (.slice (Try.prog.elem 28)) := by rw [he]; exact rowTerm.und
  have hsz : (sizeOf (Try.prog.elem 28)).run Try.prog w = .ok 18 w := by rw [he]; simp [sizeOf, typeInfo, hi, hz1]
  have hrun := run_slice_l (P := Try.prog) (w := w) 28 (some ⟨g, 0, none⟩) n cap ht .i64 (l : Int) (by omega) (by omega)
  rw [hsz] at hrun
  refine wpList_plain hg fun K hK => ?_
  unfold Oper.wp execOp
  simp only [ho, hx, hy, Option.map_some, Option.map_none, run_sliceAt_slice (h := ht), Sem.run_bind, hrun, Result.andThen_ok]
  refine hK _ _ ?_
  have := h (if cap = l then 0 else l * 18) (fun hlt => if_neg (by omega))
  unfold sliced
  rw [Int.toNat_natCast]
  by_cases hcl : cap = l
  · rw [if_pos hcl] at this ⊢; exact this
  · rw [if_neg hcl] at this ⊢
    simp only [Option.map_some, Addr.add_mid, Nat.zero_add]
    exact this
end

theorem range_from {w : World} {g cap l off : Nat} {ts : List Tm} (h : w.rangeAt g 0 (tc ts)) (hn : ts.length ≤ cap) (ho : l < cap → off = l * 18) : w.rangeAt g off (tc (ts.drop l)) := by
  by_cases hl : l < cap
  · rw [ho hl]
    have := rangeAt_drop h l
    rwa [Nat.zero_add] at this
  · rw [List.drop_eq_nil_of_le (by omega)]
    intro j v hv
    simp [tc] at hv

theorem range_new (w : World) (t : Tm) (T : TypeId) : (w.alloc (.cells t.cells T)).rangeAt w.heap.size 0 (tc [t]) := by
  intro j v hv
  have h := (Blk.new w t.cells T).cells j
  rw [Nat.zero_add]
  rw [h]
  have : tc [t] = t.vals := by simp [tc]
  rw [this] at hv
  simpa [Tm.cells] using hv
end Go.Proofs.Yticmlgnolbccjaa
