/- Regions that draw their order: loads first, in the worlds in which old memory lies unturned; then each order of what makes memory. -/
import Derived.Test.YticmlgnolbccjaaT3
import Derived.Test.YticmlgnolbccjaaD9
import Derived.Deep.RegionHeld
set_option linter.unusedVariables false
set_option linter.unusedSimpArgs false
namespace Go.Proofs.Yticmlgnolbccjaa
open Go.RowKit

section
variable {P : Program} {ops : Array Oper} {Q : Exit → Act → World → Prop} {md : Region.Mode} {S : World → Prop}

theorem allH_cons {fuel : Nat} {listed : Array Bool} {a : Act} {w : World} {i : Nat} {o : Oper} {rs : List Nat} (ho : ops[i]? = some o) (hg : o.guard = none)
    (h : ∀ K' : Act → World → Prop, (∀ a w, S w → wpAnyH P md ops Q S fuel (listed.setIfInBounds i true) a w → K' a w) → Oper.wp P o a w K' Q)
    (hs : AllReadyH P md ops Q S fuel listed a w rs) : AllReadyH P md ops Q S fuel listed a w (i :: rs) :=
  AllReadyH.cons ho (fun K' hK => by rw [if_pos (by simp [Region.wanted, hg])]; exact h K' fun a w hS hW => hK.out a w hS fun _ => hW) hs

/-- What yields in each world that meets S is taken first. -/
theorem takeH {i : Nat} {oi : Oper} {v : Value} {fuel : Nat} {listed : Array Bool} {a : Act} {w : World} (hi : ops[i]? = some oi)
    (hs : Region.noSelect ops = true) (hf : Region.free md ops listed i = true) (hr : (Region.ready md ops listed).contains i = true)
    (hQ : ∀ t v c a w, Q (.panic c) (a.put (some t) v) w → Q (.panic c) a w) (hS : S w) {t : Tmp} (hd : oi.dst = some t) (hg : oi.guard = none) (hy : ∀ w, S w → (execOp a.eval oi).run P w = .ok (.value v) w)
    (h : wpAnyH P md ops Q S fuel (listed.setIfInBounds i true) (a.put oi.dst v) w) : wpAnyH P md ops Q S (fuel + 1) listed a w :=
  wpAnyH_take hi hs hf hr (by rw [hd]; exact hQ t v) (.inl ⟨by simp [Region.wanted, hg], hy⟩) hS h

/-- The same, what is closed reckoned by the kernel. -/
theorem takeA (i : Nat) {oi : Oper} {v : Value} {fuel : Nat} {listed : Array Bool} {a : Act} {w : World} (hS : S w)
    (hy : ∀ w, S w → (execOp a.eval oi).run P w = .ok (.value v) w)
    (h : wpAnyH P md ops Q S fuel (listed.setIfInBounds i true) (a.put oi.dst v) w)
    (hi : ops[i]? = some oi := by simp only [List.getElem?_toArray, List.getElem?_cons_succ, List.getElem?_cons_zero]; rfl)
    (hs : Region.noSelect ops = true := by decide +kernel) (hf : Region.free md ops listed i = true := by decide +kernel) (hr : (Region.ready md ops listed).contains i = true := by decide +kernel)
    (hQ : ∀ t v c a w, Q (.panic c) (a.put (some t) v) w → Q (.panic c) a w := by exact fun _ _ _ _ _ h => h) {t : Tmp} (hd : oi.dst = some t := by rfl) (hg : oi.guard = none := by rfl) :
    wpAnyH P md ops Q S (fuel + 1) listed a w := takeH hi hs hf hr hQ hS hd hg hy h
theorem allA {fuel : Nat} {listed : Array Bool} {a : Act} {w : World} (i : Nat) {o : Oper} {rs : List Nat}
    (h : ∀ K' : Act → World → Prop, (∀ a w, S w → wpAnyH P md ops Q S fuel (listed.setIfInBounds i true) a w → K' a w) → Oper.wp P o a w K' Q)
    (hs : AllReadyH P md ops Q S fuel listed a w rs)
    (ho : ops[i]? = some o := by simp only [List.getElem?_toArray, List.getElem?_cons_succ, List.getElem?_cons_zero]; rfl) (hg : o.guard = none := by rfl) : AllReadyH P md ops Q S fuel listed a w (i :: rs) := allH_cons ho hg h hs

/-- The beginning, at the worlds in which old memory lies unturned. -/
theorem wp_region_old {id : Nat} {a : Act} {w : World} (hm : P.follows .mixedOrders = true)
    (h : Ext w w.drew → wpAnyH P .any ops Q (Ext w) ops.size (Array.replicate ops.size false) a w.drew) : (Code.region id ops true).wp P Q a w :=
  wp_region_held hm (h (Ext.drew w))

theorem Ext.alloc {w W : World} (h : Ext w W) (o : Obj) : Ext w (W.alloc o) := Below.alloc h h.size o
theorem Ext.call {w W W' : World} (h : Ext w W) (hb : Below W.heap.size W W') : Ext w W' := Below.trans h (hb.mono h.size)
theorem Ext.only {w W W' : World} {b : Nat} (h : Ext w W) (ho : Only W W' b) (hb : w.heap.size ≤ b) : Ext w W' := Below.trans h (ho.below hb)
theorem Ext.cell {w W : World} (h : Ext w W) {g o : Nat} {v : Value} (hc : w.cell? ⟨g, o, none⟩ = some v) : W.cell? ⟨g, o, none⟩ = some v :=
  (Below.cell (p := ⟨g, o, none⟩) h (World.block_lt_of_cell? w _ hc)).trans hc
end

section
variable {ops : Array Oper} {a : Act} {o : Oper} {w : World}
theorem held_dg {W : World} (hW : Ext w W) {a : Act} {o : Oper} {v : Value} (x : Operand) (ho : o.op = .load 47 x) (b off : Nat) (hx : a.eval x = .pointer (some ⟨b, off, none⟩)) (d : Dg) (h : w.rangeAt b off d.list) (hlt : b < w.heap.size) (hv : v = .agg d.cells) :
    (execOp a.eval o).run Try.prog W = .ok (.value v) W := by
  subst hv
  unfold execOp
  simp only [ho, hx, Instr.loadAt, Instr.sureAddr, Sem.run_bind, Sem.run_pure, Result.andThen_ok, run_loadVar_mid W b off 47 d.list _ (rangeAt_below h hW hlt) Try.underlying47 rfl (by rw [d.length_list]; exact (info_dg).trans rfl)]
  rfl
end
end Go.Proofs.Yticmlgnolbccjaa
