/- Appends to slices of a call's own, and what they leave alone. -/
import Derived.Test.YticmlgnolbccjaaProg
import Derived.Test.YticmlgnolbccjaaD1
import Derived.Laws.BytesArg
set_option linter.unusedVariables false
set_option linter.unusedSimpArgs false
namespace Go.Proofs.Yticmlgnolbccjaa
open Go.RowKit

/-- What is owned is a slice. -/
theorem own_slice {w : World} {base size n : Nat} {E : TypeId} {v : Value} {xs : List Value} (h : w.ownsRow base E size v n xs) : ∃ ad cap, v = .slice ad n cap := by
  rcases h.2 with ⟨rfl, rfl⟩ | ⟨g, cap, cur, rfl, _⟩
  · exact ⟨_, _, rfl⟩
  · exact ⟨_, _, rfl⟩
theorem own_pos {w : World} {base size n : Nat} {E : TypeId} {v : Value} {xs : List Value} (h : w.ownsRow base E size v n xs) (hn : 0 < n) :
    ∃ g cap, v = .slice (some ⟨g, 0, none⟩) n cap ∧ base ≤ g ∧ g < w.heap.size ∧ n ≤ cap ∧ cap ≤ 9223372036854775807 := by
  rcases h.2 with ⟨_, h0⟩ | ⟨g, cap, cur, rfl, hb, hg, hc, hm, _⟩
  · omega
  · exact ⟨g, cap, rfl, hb, (Array.getElem?_eq_some_iff.1 hg).1, hc, by unfold maxLen at hm; omega⟩
theorem own_cell {w : World} {base n g cap : Nat} {E : TypeId} {size : Nat} {xs : List Value} (h : w.ownsRow base E size (.slice (some ⟨g, 0, none⟩) n cap) n xs) (j : Nat) (u : Value) (hu : xs[j]? = some u) : w.cell? ⟨g, j, none⟩ = some u := by
  have := h.cells (g := g) rfl j u hu
  rwa [Addr.add_mid, Nat.zero_add] at this
theorem own_ne {w : World} {base size n b : Nat} {E : TypeId} {v : Value} {xs : List Value} (h : w.ownsRow base E size v n xs) (hb : b < base) : some b ≠ v.ownBlock := fun e => by
  have := (h.lt b e.symm).1; omega
theorem Blk.grownOwn {w w' : World} {b : Nat} {cs : Array Value} {T : TypeId} {base size n : Nat} {E : TypeId} {v : Value} {xs : List Value} (h : Blk w b cs T) (hg : w.grownBy w' v.ownBlock) (ho : w.ownsRow base E size v n xs) (hb : b < base) : Blk w' b cs T :=
  h.grown hg (own_ne ho hb)
theorem bel_grown {B : Nat} {w0 w w' : World} {base size n : Nat} {E : TypeId} {v : Value} {xs : List Value} (h : Below B w0 w) (hg : w.grownBy w' v.ownBlock) (ho : w.ownsRow base E size v n xs) (hB : B ≤ base) (hs : B ≤ w.heap.size) : Below B w0 w' :=
  h.grown hg hs fun k hk => by have := (ho.lt k hk).1; omega
theorem own_drewN {w : World} {base size n : Nat} {E : TypeId} {v : Value} {xs : List Value} (h : w.ownsRow base E size v n xs) (j : Nat) : (w.drewN j).ownsRow base E size v n xs := h
theorem own_only {w w' : World} {b base size n : Nat} {E : TypeId} {v : Value} {xs : List Value} (h : w.ownsRow base E size v n xs) (ho : Only w w' b) (hne : some b ≠ v.ownBlock) : w'.ownsRow base E size v n xs :=
  h.kept (w' := w') (row := some b) ⟨ho.os, ho.tape, ho.output, by rw [ho.size]; exact Nat.le_refl _, fun k _ hk => ho.block k (fun e => hk (by rw [e]))⟩ (.inr (fun e => hne e.symm))
theorem own_below {w w' : World} {B base size n : Nat} {E : TypeId} {v : Value} {xs : List Value} (h : w.ownsRow base E size v n xs) (hb : Below B w w') (hB : w.heap.size ≤ B) : w'.ownsRow base E size v n xs :=
  h.kept (w' := w') (row := none) ⟨hb.os, hb.tape, hb.output, hb.size, fun k hk _ => hb.block k (by omega)⟩ (by cases hv : v.ownBlock <;> simp)

section
variable {ops : Array Oper} {rest : List Oper} {o : Oper} {a : Act} {w : World} {Q : Exit → Act → World → Prop}

theorem info_u8 : (Try.prog.info? 5).map (fun i => (i.zero, i.size, i.bytes)) = some (some (.int .u8 0), 1, 1) := by kernel_rfl

/-- One byte more. -/
theorem append_u8 (hgd : o.guard = none) (s x : Operand) (ho : o.op = .call { callee := .builtin .append, args := #[s, x], argTypes := #[131, 131] })
    (base : Nat) (v : Value) (n : Nat) (xs : List Int) (hs : a.eval s = v) (hown : w.ownsRow base 5 1 v n (xs.map (Value.int .u8)))
    (g : Nat) (c : Int) (hx : a.eval x = .slice (some ⟨g, 0, none⟩) 1 1) (T : TypeId) (hc : Blk w g #[.int .u8 c] T) (hn : n ≤ 1000000) (hbase : base ≤ w.heap.size)
    (h : ∀ v' w', w'.ownsRow base 5 1 v' (n + 1) ((xs ++ [c]).map (Value.int .u8)) → w.grownBy w' v.ownBlock → wpList Try.prog ops Q rest (a.put o.dst v') w') : wpList Try.prog ops Q (o :: rest) a w := by
  obtain ⟨i0, hi, hz0, hz1, hz2⟩ := info_parts info_u8
  refine wpList_append_own w hgd s x 131 ho base 5 i0 (.int .u8 0) 1 1 Try.underlying131 hi hz0 hz1 hz2 rfl (by decide) v n _ hs hown ⟨g, 0, none⟩ 1 1 [.int .u8 c] hx rfl ?_ ?_ (by unfold maxLen; omega) (by omega) hbase ?_
  · intro j u hu
    cases j with
    | zero => simp at hu; subst hu; exact hc.cells 0
    | succ j => simp at hu
  · intro u hu; simp at hu; subst hu; rfl
  · intro v' w' h1 h2 _
    exact h v' w' (by simpa using h1) h2

/-- A slice of bytes of the call's own as a string. -/
theorem convert_own (hgd : o.guard = none) (x : Operand) (ho : o.op = .convert 131 9 x) (base : Nat) (v : Value) (n : Nat) (xs : List Int) (hs : a.eval x = v)
    (hown : w.ownsRow base 5 1 v n (xs.map (Value.int .u8))) (h : wpList Try.prog ops Q rest (a.put o.dst (.string (strOfNums xs))) w) : wpList Try.prog ops Q (o :: rest) a w := by
  have hl : xs.length = n := by have := hown.1; simpa using this
  have hrun : (convert 131 9 v).run Try.prog w = .ok (.string (strOfNums xs)) w := by
    rcases hown.2 with ⟨rfl, rfl⟩ | ⟨g, cap, cur, rfl, _, hg, _, _, _, ht⟩
    · obtain rfl : xs = [] := List.eq_nil_of_length_eq_zero hl
      exact run_convert_bytes_nil w _ _ Try.underlying131 Try.underlying5 0 0 _ Try.underlying9
    · refine run_convert_bytes_arg w _ _ Try.underlying131 Try.underlying5 g 0 n cap xs hl (fun i hi => ?_) _ Try.underlying9
      have := hown.cells (g := g) rfl i (.int .u8 (xs.getD i 0)) (by simp [List.getD_eq_getElem?_getD, List.getElem?_eq_getElem (show i < xs.length by omega)])
      rw [Addr.add_mid] at this
      exact this
  refine wpList_plain hgd fun K hK => ?_
  unfold Oper.wp execOp
  simp only [ho, hs, hrun, Sem.run_bind, Sem.run_pure, Result.andThen_ok]
  exact hK _ _ h
end
end Go.Proofs.Yticmlgnolbccjaa
