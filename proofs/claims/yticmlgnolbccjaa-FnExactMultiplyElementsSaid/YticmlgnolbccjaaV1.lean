/- Maps from diagrams to numbers, as functions. -/
import Derived.Test.YticmlgnolbccjaaE1
import Derived.Test.YticmlgnolbccjaaL6
import Derived.Maps.RangeWalk
import Derived.Maps.OwnOps
set_option linter.unusedVariables false
set_option linter.unusedSimpArgs false
namespace Go.Proofs.Yticmlgnolbccjaa
open Go.RowKit Go.Maps

theorem keyedDg : Keyed Try.prog 47 := Keyed.of_law lawDg
open Classical in
/-- What a diagram reads as, as a key. -/
noncomputable def kl (d : Dg) : Lit := if h : ∃ l, keyOf Try.prog 47 (.agg d.cells) = some l then Classical.choose h else .bool false
theorem kl_spec {d : Dg} (h : d.Wf) : keyOf Try.prog 47 (.agg d.cells) = some (kl d) := by
  have h1 := keyOf_dg d h
  unfold kl
  rw [dif_pos h1]
  exact Classical.choose_spec h1
theorem kl_inj {d e : Dg} (hd : d.Wf) (he : e.Wf) (h : kl d = kl e) : d = e := by
  have h1 := kl_spec hd
  rw [h] at h1
  exact cells_inj hd he (Value.agg.inj (keyedDg.inj h1 (kl_spec he)))
theorem kl_key {d : Dg} (h : d.Wf) : WideAt.IsKeyLit (kl d) := by
  have h1 := kl_spec h
  generalize kl d = x at h1 ⊢
  exact keyedDg.key h1

noncomputable abbrev PE (v : Value) : Option (DataW Unit × List MemPlace) := plainElem Try.prog 2 v
theorem zeroI64 (w : World) : (zeroValue 2).run Try.prog w = .ok (.int .i64 0) w := by kernel_rfl
def i64d (x : Int) : DataW Unit := .lit (.int .i64 x)

/-- A map's reading says the function f; its keys are diagrams of the size n. -/
structure Says (D : DataW Unit) (n : Nat) (f : Dg → Int) : Prop where
  at_ : ∀ d : Dg, d.Wf → D.atKey (kl d) (i64d 0) = i64d (f d)
  keys : ∀ l, Maps.has D l = true → ∃ d, Good d ∧ d.size = n ∧ l = kl d
  wf : ∀ d : Dg, d.Wf → (Lit.int .i64 (f d)).wf = true

/-- Block b is a map of at most k entries that says f. -/
def MapIs (w : World) (b k n : Nat) (f : Dg → Int) : Prop := ∃ D : DataW Unit, w.ownsMap Try.prog 47 PE b k D ∧ Says D n f

theorem says_empty (n : Nat) : Says (.map []) n (fun _ => 0) := ⟨fun d _ => rfl, (fun l h => by cases h), fun _ _ => by decide⟩
theorem Says.put {D : DataW Unit} {n : Nat} {f : Dg → Int} (h : Says D n f) (hD : IsMap D) {d : Dg} (hd : Good d) (hs : d.size = n) {x : Int} (hx : (Lit.int .i64 x).wf = true) : Says (D.put (kl d) (i64d x)) n (fun e => if e = d then x else f e) := by
  refine ⟨fun e he => ?_, fun l hl => ?_, fun e he => ?_⟩
  · by_cases hed : e = d
    · subst hed
      rw [if_pos rfl, atKey_put_same hD (kl_key he)]
    · rw [if_neg hed, atKey_put_other (fun h' => hed (kl_inj he hd.wf h')), h.at_ e he]
  · by_cases hld : l = kl d
    · exact ⟨d, hd, hs, hld⟩
    · rw [has_put_other hld] at hl
      exact h.keys l hl
  · show (Lit.int .i64 (if e = d then x else f e)).wf = true
    split
    · exact hx
    · exact h.wf e he

section
variable {w w' : World} {b k n : Nat} {f : Dg → Int}
theorem MapIs.lt (h : MapIs w b k n f) : b < w.heap.size := by obtain ⟨D, h1, h2⟩ := h; exact h1.lt
theorem MapIs.kept {row : Option Nat} (h : MapIs w b k n f) (hg : w.grownBy w' row) (hne : some b ≠ row) : MapIs w' b k n f := by
  obtain ⟨D, h1, h2⟩ := h; exact ⟨D, h1.kept hg hne, h2⟩
theorem MapIs.below {B : Nat} (h : MapIs w b k n f) (hb : Below B w w') (hB : b < B) : MapIs w' b k n f := by
  obtain ⟨D, ⟨es, clock, hh, r⟩, h2⟩ := h
  exact ⟨D, ⟨es, clock, (hb.block b hB).trans hh, r⟩, h2⟩
theorem MapIs.only {b' : Nat} (h : MapIs w b k n f) (ho : Only w w' b') (hne : b ≠ b') : MapIs w' b k n f := by
  obtain ⟨D, ⟨es, clock, hh, r⟩, h2⟩ := h
  exact ⟨D, ⟨es, clock, (ho.block b hne).trans hh, r⟩, h2⟩
theorem MapIs.but {l : List Nat} (h : MapIs w b k n f) (hb : But w w' l) (hn : b ∉ l) : MapIs w' b k n f := by
  have hlt := h.lt
  obtain ⟨D, ⟨es, clock, hh, r⟩, h2⟩ := h
  exact ⟨D, ⟨es, clock, (hb.block b hlt hn).trans hh, r⟩, h2⟩
theorem MapIs.alloc (h : MapIs w b k n f) (o : Obj) : MapIs (w.alloc o) b k n f := h.kept (World.grownBy_alloc w o none) (by simp)
theorem MapIs.drewN (h : MapIs w b k n f) (j : Nat) : MapIs (w.drewN j) b k n f := h
theorem MapIs.drew (h : MapIs w b k n f) : MapIs w.drew b k n f := h
theorem MapIs.new (w : World) (n : Nat) : MapIs (w.alloc (.map #[] 0)) w.heap.size 0 n (fun _ => 0) := ⟨.map [], World.ownsMap_made _ _ _ _, says_empty n⟩
theorem MapIs.congr {g : Dg → Int} (h : MapIs w b k n f) (hg : ∀ d : Dg, d.Wf → f d = g d) : MapIs w b k n g := by
  obtain ⟨D, h1, h2⟩ := h
  exact ⟨D, h1, ⟨fun d hd => by rw [← hg d hd]; exact h2.at_ d hd, h2.keys, fun d hd => by rw [← hg d hd]; exact h2.wf d hd⟩⟩
theorem MapIs.lookup (h : MapIs w b k n f) {d : Dg} (hd : d.Wf) : (Instr.lookup 94 (.map (some b)) (.agg d.cells) false).run Try.prog w = .ok (.int .i64 (f d)) w := by
  obtain ⟨D, h1, h2⟩ := h
  obtain ⟨c, hrun, hat, hwc⟩ := h1.lookup_int keyedDg Try.underlying94 Try.underlying2 (zeroI64 w) (kl_spec hd)
  have := h2.at_ d hd
  unfold i64d at this
  rw [this] at hat
  simp only [DataW.lit.injEq, Lit.int.injEq, true_and] at hat
  rw [hrun, hat]
theorem MapIs.wf (h : MapIs w b k n f) {d : Dg} (hd : d.Wf) : (Lit.int .i64 (f d)).wf = true := by
  obtain ⟨D, h1, h2⟩ := h; exact h2.wf d hd
end

section
variable {ops : Array Oper} {rest : List Oper} {o : Oper} {a : Act} {w : World} {Q : Exit → Act → World → Prop}
/-- 'm[k] = v' at a diagram. -/
theorem update_dg (hg : o.guard = none) (m x v : Operand) (ho : o.op = Op.mapUpdate 94 m x v) (b k n : Nat) (f : Dg → Int) (hm : a.eval m = .map (some b)) (h : MapIs w b k n f) (hk : k ≤ 1000000)
    (d : Dg) (hd : Good d) (hs : d.size = n) (hx : a.eval x = .agg d.cells) (y : Int) (hv : a.eval v = .int .i64 y) (hy : (Lit.int .i64 y).wf = true)
    (hK : ∀ w', MapIs w' b (k + 1) n (fun e => if e = d then y else f e) → w.grownBy w' (some b) → wpList Try.prog ops Q rest (a.put o.dst undef) w') : wpList Try.prog ops Q (o :: rest) a w := by
  obtain ⟨D, h1, h2⟩ := h
  refine wpList_mapUpdate_own w hg m x v 94 ho 47 2 keyedDg Try.underlying94 PE b k D hm h1 (by unfold maxLen; omega) _ _ (kl d) hx hv (kl_spec hd.wf) (i64d y) [] (plainElem_int Try.underlying2 hy) ?_
  intro w' h3 h4
  refine hK w' ⟨_, h3, h2.put ?_ hd hs hy⟩ h4
  obtain ⟨es, clock, -, -, -, rfl⟩ := h1
  exact ⟨_, rfl⟩

/-- The same, outside of a list. -/
theorem wp_update_dg {K : Act → World → Prop} (m x v : Operand) (ho : o.op = Op.mapUpdate 94 m x v) (b k n : Nat) (f : Dg → Int) (hm : a.eval m = .map (some b)) (h : MapIs w b k n f) (hk : k ≤ 1000000)
    (d : Dg) (hd : Good d) (hs : d.size = n) (hx : a.eval x = .agg d.cells) (y : Int) (hv : a.eval v = .int .i64 y) (hy : (Lit.int .i64 y).wf = true)
    (hK : ∀ w', MapIs w' b (k + 1) n (fun e => if e = d then y else f e) → w.grownBy w' (some b) → K (a.put o.dst undef) w') : o.wp Try.prog a w K Q := by
  obtain ⟨D, h1, h2⟩ := h
  obtain ⟨w', hrun, r1, r2⟩ := h1.update keyedDg Try.underlying94 (by unfold maxLen; omega) (val := .int .i64 y) (kl_spec hd.wf) (d := i64d y) (ps := []) (plainElem_int Try.underlying2 hy)
  unfold Oper.wp
  simp [execOp, ho, hm, hx, hv, hrun, Result.andThen]
  refine hK w' ⟨_, r1, h2.put ?_ hd hs hy⟩ r2
  obtain ⟨es, clock, -, -, -, rfl⟩ := h1
  exact ⟨_, rfl⟩
end
end Go.Proofs.Yticmlgnolbccjaa
