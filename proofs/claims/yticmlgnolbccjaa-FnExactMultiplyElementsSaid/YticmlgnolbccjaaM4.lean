/- Regions that draw their order, whose operations read, and whose calls leave old memory as it was. -/
import Derived.Test.YticmlgnolbccjaaD2
import Derived.Test.YticmlgnolbccjaaM3
import Derived.Deep.QuietTactic
import Derived.BigQuiet
import Derived.StillTailTactics
set_option linter.unusedVariables false
set_option linter.unusedSimpArgs false
namespace Go.Proofs.Yticmlgnolbccjaa
open Go.RowKit

/-- The worlds in which all that lay in w lies unturned. -/
def Ext (w W : World) : Prop := Below w.heap.size w W
theorem Ext.drew (w : World) : Ext w w.drew := (Below.refl _ w).drew
theorem Ext.refl (w : World) : Ext w w := Below.refl _ w
structure ExtOf (w : World) where
  W : World
  h : Ext w W

instance (w : World) : Nonempty (ExtOf w) := ⟨⟨w, Ext.refl w⟩⟩

theorem wp_region_ext {P : Program} {id : Nat} {Q : Exit → Act → World → Prop} {a : Act} {w : World} {l : List Oper} (hm : P.follows .mixedOrders = true) (hB : Region.lexB .any l.toArray = true)
    (h : wpQuiet P l.toArray (fun w' => ∃ p : ExtOf w, w' = p.W) (fun a' => ∀ w', (∃ p : ExtOf w, w' = p.W) → Q .normal a' w') l a) : (Code.region id l.toArray true).wp P Q a w :=
  wp_region_quiet (C := fun w' => ∃ p : ExtOf w, w' = p.W) hm hB ⟨⟨w.drew, Ext.drew w⟩, rfl⟩ (by simpa using h)

theorem ext_call {P : Program} {f : FuncId} {args : Array Value} {w : World} {v : Value} (p : ExtOf w) (h : Calls P f args p.W fun e W' => e = .returned v ∧ Below p.W.heap.size p.W W') :
    Calls P f args p.W fun e W' => e = .returned v ∧ ∃ q : ExtOf w, W' = q.W :=
  h.mono fun e W' ⟨he, hb⟩ => ⟨he, ⟨W', Below.trans p.h (hb.mono p.h.size)⟩, rfl⟩
theorem ext_same {P : Program} {f : FuncId} {args : Array Value} {w : World} {v : Value} (p : ExtOf w) (h : Calls P f args p.W fun e W' => e = .returned v ∧ p.W = W') :
    Calls P f args p.W fun e W' => e = .returned v ∧ ∃ q : ExtOf w, W' = q.W :=
  h.mono fun e W' ⟨he, hb⟩ => ⟨he, p, hb.symm⟩

section
variable {P : Program} {ops : Array Oper} {a : Act} {o : Oper} {K : Act → Prop} {w : World}

theorem ExtOf.blk (p : ExtOf w) {b : Nat} {cs : Array Value} {T : TypeId} (h : Blk w b cs T) : Blk p.W b cs T := h.below p.h h.lt
theorem ext_cells {b : Nat} {cs : Array Value} {T : TypeId} (h : Blk w b cs T) : ∀ (p : ExtOf w) (o : Nat), p.W.cell? ⟨b, o, none⟩ = cs[o]? := fun p => (p.blk h).cells
/-- The load of a diagram at such a world. -/
theorem quiet_load_dg (x : Operand) (ho : o.op = .load 47 x) (b : Nat) (hx : a.eval x = .pointer (some ⟨b, 0, none⟩)) (d : Dg) (T : TypeId) (h : Blk w b d.cells T)
    (hK : K (a.put o.dst (.agg d.cells))) : o.quiet Try.prog a (fun w' => ∃ p : ExtOf w, w' = p.W) K := by
  refine ⟨.agg d.cells, fun W hW => ?_, hK⟩
  obtain ⟨p, rfl⟩ := hW
  unfold Oper.quietAt execOp
  simp only [ho, hx, Instr.loadAt, Instr.sureAddr, Sem.run_bind, Sem.run_pure, Result.andThen_ok, run_loadVar_row p.W b T 47 d.cells (0, 0) _ (p.blk h) Try.underlying47 rfl (by rw [info_dg, d.size_cells])]
  exact ⟨rfl, rfl⟩
/-- The load of a diagram in the head of a region that ends in a store. -/
theorem still_load_dg (x : Operand) (ho : o.op = .load 47 x) (b : Nat) (hx : a.eval x = .pointer (some ⟨b, 0, none⟩)) (d : Dg) (T : TypeId) (h : Blk w b d.cells T) (hw : Region.wanted o (yielded ops a.tmps) = true)
    {Q : Act → Prop} {rest : List Oper} (hK : wpStill Try.prog ops w Q rest (a.put o.dst (.agg d.cells))) : wpStill Try.prog ops w Q (o :: rest) a := by
  refine wpStill_step fun K hk => ?_
  rw [if_pos hw]
  unfold Oper.still execOp
  simp only [ho, hx, Instr.loadAt, Instr.sureAddr, Sem.run_bind, Sem.run_pure, Result.andThen_ok, run_loadVar_row w b T 47 d.cells (0, 0) _ h Try.underlying47 rfl (by rw [info_dg, d.size_cells])]
  exact ⟨rfl, hk _ hK⟩
end
end Go.Proofs.Yticmlgnolbccjaa
